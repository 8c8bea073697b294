/- A small evaluator for calls whose inputs are known: it carries a call out on a memory of its own (blocks are named by numbers of its own choice), gives up wherever the tape could make a difference that it can't show to be none, and is sound (see the texts that follow). -/
import Derived.Calls
import Derived.Orders
import Derived.Scope
namespace Go.Proofs.YteohlibpfgmcaaaGreatDoor
namespace Ev
open Go
set_option linter.unusedVariables false

noncomputable section

/-! ### A binary tree that is an array -/

inductive Tr (α : Type) where
  | lf
  | nd (l : Tr α) (v : Option α) (r : Tr α)

def Tr.getS {α : Type} (v : Option α) (l r : Nat → Option α) (n : Nat) : Option α :=
  Nat.rec (motive := fun _ => Option α) v (fun n _ => Bool.rec (motive := fun _ => Option α) (r (Nat.div n 2)) (l (Nat.div n 2)) (Nat.beq (Nat.mod n 2) 0)) n

def Tr.get {α : Type} (t : Tr α) : Nat → Option α :=
  Tr.rec (motive := fun _ => Nat → Option α) (fun _ => none) (fun _ v _ l r => Tr.getS v l r) t

def Tr.setS {α : Type} (a : α) (rec : Tr α → Nat → Tr α) (l : Tr α) (v : Option α) (r : Tr α) (n : Nat) : Tr α :=
  Nat.rec (motive := fun _ => Tr α) (.nd l (some a) r) (fun n _ => Bool.rec (motive := fun _ => Tr α) (.nd l v (rec r (Nat.div n 2))) (.nd (rec l (Nat.div n 2)) v r) (Nat.beq (Nat.mod n 2) 0)) n

def Tr.setF {α : Type} (a : α) (f : Nat) : Tr α → Nat → Tr α :=
  Nat.rec (motive := fun _ => Tr α → Nat → Tr α) (fun t _ => t) (fun _ rec t n => Tr.rec (motive := fun _ => Tr α) (Tr.setS a rec .lf none .lf n) (fun l v r _ _ => Tr.setS a rec l v r n) t) f

def Tr.set {α : Type} (t : Tr α) (n : Nat) (a : α) : Tr α := Tr.setF a (Nat.succ n) t n

def Tr.ofList {α : Type} : List α → Nat → Tr α → Tr α
  | [], _, t => t
  | x :: xs, i, t => Tr.ofList xs (i + 1) (t.set i x)

def evens {α : Type} : List α → List α
  | [] => []
  | [x] => [x]
  | x :: _ :: l => x :: evens l

def odds {α : Type} : List α → List α
  | [] => []
  | [_] => []
  | _ :: y :: l => y :: odds l

def Tr.ofS {α : Type} (rec : List α → Tr α) (l : List α) : Tr α :=
  match l with
  | [] => .lf
  | x :: l => .nd (rec (evens l)) (some x) (rec (odds l))

def Tr.ofF {α : Type} (f : Nat) : List α → Tr α :=
  Nat.rec (motive := fun _ => List α → Tr α) (fun _ => .lf) (fun _ rec => Tr.ofS rec) f

def Tr.ofL {α : Type} (l : List α) : Tr α := Tr.ofF (l.length + 1) l

/-! ### Memory -/

inductive AObj where
  | dead
  | row (n : Nat) (g : Nat) (z : Array Value) (cs : Tr Value)
  | map (es : List MapEntry) (clock : Nat)
  | iter (m : Option Nat) (since : Nat) (seen : List Nat) (stepped : Nat)
  | siter (s : ByteArray) (pos : Nat)
  | rom (n : Nat) (cs : Tr Value)

/-- how many package-level variables are looked at: the first ones -/
def GN : Nat := 0

abbrev Heap := Tr AObj

def mkRow (g : Nat) (cells : Array Value) : AObj := .row cells.size g #[] (Tr.ofL cells.toList)

def bnd {α β : Type} (x : Option α) (f : α → Option β) : Option β := match x with | none => none | some a => f a

inductive Out where
  | val (v : Value)
  | new (v : Value) (o : AObj)
  | act (v : Value) (h : Heap)
  | enter (f : FuncId) (args : List Value)

def undefV : Value := .tuple #[]

def plainS : Value → Bool
  | .bool _ => true
  | .int _ _ => true
  | .string _ => true
  | .pointer none => true
  | .slice none _ _ => true
  | .map none => true
  | .nilFunc => true
  | .nilIface => true
  | _ => false

/-- no address in it -/
def plainV : Value → Bool
  | .func _ f c => f.size == 0 && c.size == 0
  | .tuple vs => vs.size == 0
  | .agg cs => cs.toList.all plainS
  | v => plainS v

def opv (P : Program) (ts : Tr Value) : Operand → Option Value
  | .tmp t => match ts.get t with | some v => some v | none => some undefV
  | .const v => match plainV v with | true => some v | false => none
  | .global g => match Nat.ble (g + 1) GN with | true => some (.pointer (some ⟨g, 0, none⟩)) | false => none
  | .func f => some (.func (.func f) #[] #[])

def cellAt (n : Nat) (z : Array Value) (cs : Tr Value) (i : Nat) : Option Value :=
  match Nat.ble (i + 1) n with
  | true => match cs.get i with
    | some v => some v
    | none => z[i % z.size]?
  | false => none

def rdN (n : Nat) (z : Array Value) (cs : Tr Value) : Nat → Nat → Option (List Value)
  | 0, _ => some []
  | k + 1, i => bnd (cellAt n z cs i) fun v => bnd (rdN n z cs k (i + 1)) fun l => some (v :: l)

def rdCells (h : Heap) (a : Addr) (k : Nat) : Option (List Value) :=
  match a.spot with
  | some _ => none
  | none => match h.get a.block with
    | some (.row n _ z cs) => rdN n z cs k a.off
    | some (.rom n cs) => rdN n #[] cs k a.off
    | _ => none

def oneCell : Value → Bool
  | .agg _ => false
  | .tuple _ => false
  | _ => true

def wrN (cs : Tr Value) : List Value → Nat → Option (Tr Value)
  | [], _ => some cs
  | v :: l, i => match oneCell v with
    | false => none
    | true => wrN (cs.set i v) l (i + 1)

def wrCells (h : Heap) (a : Addr) (l : List Value) : Option Heap :=
  match a.spot with
  | some _ => none
  | none => match h.get a.block with
    | some (.row n g z cs) => match Nat.ble (a.off + l.length) n with
      | true => bnd (wrN cs l a.off) fun cs' => some (h.set a.block (.row n g z cs'))
      | false => none
    | _ => none

/-- a type's zero value, where it holds no address -/
def zeroOf (P : Program) (t : TypeId) : Option Value :=
  bnd (P.info? t) fun i => bnd i.zero fun z => match plainV z with
    | true => some z
    | false => none

def isAggD : TypeDesc → Bool
  | .struct _ => true
  | .array _ _ => true
  | _ => false

def loadV (P : Program) (h : Heap) (t : TypeId) (a : Addr) : Option Value :=
  bnd (P.underlying t) fun d => match isAggD d with
    | true => bnd (P.info? t) fun i => bnd (rdCells h a i.size) fun l => some (.agg l.toArray)
    | false => bnd (rdCells h a 1) fun l => l.head?

def storeV (P : Program) (h : Heap) (t : TypeId) (a : Addr) (v : Value) : Option Heap :=
  bnd (P.info? t) fun i => match Nat.beq v.cells.size i.size with
    | true => wrCells h a v.cells.toList
    | false => none

def isIfc : TypeDesc → Bool
  | .interface _ => true
  | _ => false

/-! ### Operations on values -/

def forceN {β : Type} (n : Nat) (k : Nat → β) : β := match n with | 0 => k 0 | m + 1 => k (m + 1)
def forceI {β : Type} (n : Int) (k : Int → β) : β := match n with | .ofNat m => forceN m fun m => k (.ofNat m) | .negSucc m => forceN m fun m => k (.negSucc m)

def intV (k : IntKind) (n : Int) : Option Value := forceI n fun n => some (.int k n)

def chk {α : Type} (b : Bool) (x : Option α) : Option α := match b with | true => x | false => none

/-- a number that is not below 0, wrapped -/
def natV (k : IntKind) (m : Nat) : Option Value :=
  match k with
  | .i64 => match Nat.ble m 9223372036854775807 with
    | true => forceN m fun m => some (.int .i64 (.ofNat m))
    | false => some (.int .i64 (IntKind.i64.wrap (.ofNat m)))
  | .u64 => forceN (Nat.mod m 18446744073709551616) fun m => some (.int .u64 (.ofNat m))
  | .u32 => forceN (Nat.mod m 4294967296) fun m => some (.int .u32 (.ofNat m))
  | .u8 => forceN (Nat.mod m 256) fun m => some (.int .u8 (.ofNat m))
  | .i32 => match Nat.ble m 2147483647 with
    | true => forceN m fun m => some (.int .i32 (.ofNat m))
    | false => some (.int .i32 (IntKind.i32.wrap (.ofNat m)))
  | k => some (.int k (k.wrap (.ofNat m)))

def binG (op : BinOp) (k : IntKind) (a b : Int) : Option Value :=
  match op with
  | .add => intV k (k.wrap (a + b))
  | .sub => intV k (k.wrap (a - b))
  | .mul => intV k (k.wrap (a * b))
  | .quo => match decide (b = 0) with | true => none | false => intV k (k.wrap (a.tdiv b))
  | .rem => match decide (b = 0) with | true => none | false => intV k (a.tmod b)
  | .and => intV k (k.wrap (BitVec.ofInt k.bits a &&& BitVec.ofInt k.bits b).toNat)
  | .or => intV k (k.wrap (BitVec.ofInt k.bits a ||| BitVec.ofInt k.bits b).toNat)
  | .xor => intV k (k.wrap (BitVec.ofInt k.bits a ^^^ BitVec.ofInt k.bits b).toNat)
  | .andNot => intV k (k.wrap (BitVec.ofInt k.bits a &&& ~~~ BitVec.ofInt k.bits b).toNat)
  | .eql => some (.bool (a == b))
  | .neq => some (.bool (a != b))
  | .lss => some (.bool (a < b))
  | .leq => some (.bool (a ≤ b))
  | .gtr => some (.bool (a > b))
  | .geq => some (.bool (a ≥ b))
  | _ => none

def sameK (a b : IntKind) : Bool := Nat.beq a.ctorIdx b.ctorIdx

def binN (op : BinOp) (k : IntKind) (sk : Bool) (a b : Nat) : Option Value :=
  match op with
  | .add => chk sk (natV k (Nat.add a b))
  | .sub => chk sk (match Nat.ble b a with | true => natV k (Nat.sub a b) | false => binG .sub k (.ofNat a) (.ofNat b))
  | .mul => chk sk (natV k (Nat.mul a b))
  | .quo => chk sk (match b with | 0 => none | b + 1 => natV k (Nat.div a (b + 1)))
  | .rem => chk sk (match b with | 0 => none | b + 1 => forceN (Nat.mod a (b + 1)) fun m => some (.int k (.ofNat m)))
  | .and => chk sk (natV k (Nat.land a b))
  | .or => chk sk (natV k (Nat.lor a b))
  | .xor => chk sk (natV k (Nat.xor a b))
  | .eql => chk sk (some (.bool (Nat.beq a b)))
  | .neq => chk sk (some (.bool (not (Nat.beq a b))))
  | .lss => chk sk (some (.bool (Nat.ble (Nat.succ a) b)))
  | .leq => chk sk (some (.bool (Nat.ble a b)))
  | .gtr => chk sk (some (.bool (Nat.ble (Nat.succ b) a)))
  | .geq => chk sk (some (.bool (Nat.ble b a)))
  | .shl => natV k (Nat.mul a (Nat.pow 2 (Nat.min b k.bits)))
  | .shr => forceN (Nat.div a (Nat.pow 2 (Nat.min b k.bits))) fun m => some (.int k (.ofNat m))
  | op => chk sk (binG op k (.ofNat a) (.ofNat b))

def binZ (op : BinOp) (k : IntKind) (sk : Bool) (a b : Int) : Option Value :=
  match op with
  | .shl => match decide (b < 0) with | true => none | false => intV k (k.wrap (a * 2 ^ (min b.toNat k.bits)))
  | .shr => match decide (b < 0) with | true => none | false => intV k (a.fdiv (2 ^ (min b.toNat k.bits)))
  | op => chk sk (binG op k a b)

def binI (op : BinOp) (k : IntKind) (sk : Bool) (a b : Int) : Option Value :=
  match a with
  | .ofNat m => match b with
    | .ofNat n => binN op k sk m n
    | b => binZ op k sk (.ofNat m) b
  | a => binZ op k sk a b

def binS (op : BinOp) (x y : ByteArray) : Option Value :=
  match op with
  | .add => match Nat.ble (x.size + y.size) 1000000 with | true => some (.string (x ++ y)) | false => none
  | .eql => some (.bool (x.toList == y.toList))
  | .neq => some (.bool !(x.toList == y.toList))
  | .lss => some (.bool (Op.bytesLess x.toList y.toList))
  | .leq => some (.bool (Op.bytesLess x.toList y.toList || x.toList == y.toList))
  | .gtr => some (.bool !(Op.bytesLess x.toList y.toList || x.toList == y.toList))
  | .geq => some (.bool !(Op.bytesLess x.toList y.toList))
  | _ => none

def isRow0 (h : Heap) (b : Nat) : Bool :=
  match h.get b with
  | some (.row _ 0 _ _) => true
  | _ => false

/-- two pointers to variables that are not of size 0 -/
def eqP (h : Heap) (a b : Addr) : Option Bool :=
  match a.spot, b.spot with
  | none, none => match Nat.beq a.block b.block with
    | true => some (Nat.beq a.off b.off)
    | false => match isRow0 h a.block && isRow0 h b.block with
      | true => some false
      | false => none
  | _, _ => none

/-- equality of what is neither two ints nor two strings -/
def eqA (P : Program) (h : Heap) (t : TypeId) (x y : Value) : Option Bool :=
  bnd (P.underlying t) fun u => match u, x, y with
    | .bool, .bool a, .bool b => some (a == b)
    | .pointer _, .pointer none, .pointer b => some b.isNone
    | .pointer _, .pointer (some _), .pointer none => some false
    | .pointer e, .pointer (some a), .pointer (some b) => bnd (P.info? e) fun i => match i.size with
        | 0 => none
        | _ => eqP h a b
    | .interface _, .nilIface, .iface _ _ => some false
    | .interface _, .iface _ _, .nilIface => some false
    | .slice _, .slice none _ _, .slice b _ _ => some b.isNone
    | .slice _, .slice (some _) _ _, .slice none _ _ => some false
    | .map _ _, .map none, .map b => some b.isNone
    | .map _ _, .map (some _), .map none => some false
    | .func _ _ _, .nilFunc, .nilFunc => some true
    | .func _ _ _, .nilFunc, .func _ _ _ => some false
    | .func _ _ _, .func _ _ _, .nilFunc => some false
    | _, _, _ => none

def partA (P : Program) (t : TypeId) (cs : Array Value) (off : Nat) : Option Value :=
  bnd (P.underlying t) fun d => match isAggD d with
    | true => bnd (P.info? t) fun i => some (.agg (cs.extract off (off + i.size)))
    | false => cs[off]?

def eqL (P : Program) (h : Heap) (t : TypeId) (x y : Value) : Option Bool :=
  match x, y with
  | .int k a, .int k' b => bnd (P.underlying t) fun u => match u with
    | .int _ => match sameK k k' with | true => some (a == b) | false => none
    | _ => none
  | .string a, .string b => bnd (P.underlying t) fun u => match u with
    | .string => some (a == b)
    | _ => none
  | x, y => eqA P h t x y

/-- two structs, field by field -/
def eqFs (P : Program) (h : Heap) : List Field → Array Value → Array Value → Option Bool
  | [], _, _ => some true
  | f :: fs, xs, ys => match f.name == "_" with
    | true => eqFs P h fs xs ys
    | false => bnd (partA P f.type xs f.offset) fun a => bnd (partA P f.type ys f.offset) fun b => bnd (eqL P h f.type a b) fun r => match r with
      | true => eqFs P h fs xs ys
      | false => some false

def aggO (P : Program) (h : Heap) (op : BinOp) (t : TypeId) (c d : Array Value) : Option Value :=
  match P.eqGuardType P.depth t, P.stoodInHeld t with
  | false, false => bnd (P.underlying t) fun u => match u with
    | .struct fs => bnd (eqFs P h fs.toList c d) fun r => match op with
      | .eql => some (.bool r)
      | .neq => some (.bool !r)
      | _ => none
    | _ => none
  | _, _ => none

def isConstO : Operand → Bool
  | .const _ => true
  | _ => false

def cmpA (P : Program) (h : Heap) (op : BinOp) (t : TypeId) (x y : Value) : Option Value :=
  match op with
  | .eql => bnd (eqA P h t x y) fun r => some (.bool r)
  | .neq => bnd (eqA P h t x y) fun r => some (.bool !r)
  | _ => none

def binO (P : Program) (h : Heap) (op : BinOp) (t : TypeId) (ko : Bool) (x y : Value) : Option Value :=
  match x, y with
  | .string a, .string b => binS op a b
  | .nilIface, .nilIface => match ko, op with
    | true, .eql => bnd (P.underlying t) fun u => match isIfc u with | true => some (.bool true) | false => none
    | true, .neq => bnd (P.underlying t) fun u => match isIfc u with | true => some (.bool false) | false => none
    | _, _ => none
  | .agg c, .agg d => aggO P h op t c d
  | x, y => cmpA P h op t x y

def binA (P : Program) (h : Heap) (op : BinOp) (t : TypeId) (ko : Bool) (x y : Value) : Option Value :=
  match x with
  | .int k a => match y with
    | .int k' b => binI op k (sameK k k') a b
    | _ => none
  | x => binO P h op t ko x y

def unA (op : UnOp) (x : Value) : Option Value :=
  match op, x with
  | .neg, .int k n => intV k (k.wrap (0 - n))
  | .xor, .int k n => binG .xor k (if k.signed then -1 else k.max) n
  | .not, .bool b => some (.bool !b)
  | _, _ => none

def boundA (x : Option Value) (d : Nat) (y : Nat) : Option Nat :=
  match x with
  | none => some d
  | some (.int _ (.ofNat i)) => match Nat.ble i y with | true => some i | false => none
  | _ => none

def addA (a : Addr) (n : Nat) : Addr := match n with | 0 => a | m + 1 => { a with off := a.off + (m + 1), spot := none }

def lost : Addr := ⟨0, 0, some 0⟩

def subArr (P : Program) (a : Addr) (n : Nat) (e : TypeId) (lo hi mx : Option Value) : Option Value :=
  match mx.isSome && hi.isNone with
  | true => none
  | false => bnd (boundA mx n n) fun m => bnd (boundA hi n m) fun hh => bnd (boundA lo 0 hh) fun l => bnd (P.info? e) fun i =>
    match Nat.beq m l with
    | true => some (.slice (some a) (hh - l) (m - l))
    | false => some (.slice (some (addA a (l * i.size))) (hh - l) (m - l))

def cutA (a : Option Addr) (l hh m size : Nat) (mx : Bool) : Option Value :=
  match a with
  | none => some (.slice none (hh - l) (m - l))
  | some a => match Nat.beq m l with
    | true => match l, mx with
      | 0, _ => some (.slice (some a) hh m)
      | _, true => some (.slice (some a) (hh - l) 0)
      | _, false => some (.slice (some lost) 0 0)
    | false => some (.slice (some (addA a (l * size))) (hh - l) (m - l))

def sliceA (P : Program) (t : TypeId) (x : Value) (lo hi mx : Option Value) : Option Value :=
  bnd (P.underlying t) fun u => match u, x with
  | .string, .string s => match mx with
    | some _ => none
    | none => bnd (boundA hi s.size s.size) fun hh => bnd (boundA lo 0 hh) fun l => some (.string (s.extract l hh))
  | .slice e, .slice a len cap => match mx.isSome && hi.isNone with
    | true => none
    | false => bnd (boundA mx cap cap) fun m => bnd (boundA hi len m) fun hh => bnd (boundA lo 0 hh) fun l => bnd (P.info? e) fun i => chk (Nat.ble hh m) (cutA a l hh m i.size mx.isSome)
  | .array n e, .pointer (some a) => subArr P a n e lo hi mx
  | .pointer arr, .pointer (some a) => bnd (P.underlying arr) fun v => match v with
    | .array n e => subArr P a n e lo hi mx
    | _ => none
  | _, _ => none

def idxA (P : Program) (t : TypeId) (x ix : Value) : Option Value :=
  match ix with
  | .int _ (.ofNat i) => bnd (P.underlying t) fun u => match u, x with
    | .array len e, .pointer (some a) => match Nat.ble (i + 1) len with
      | true => bnd (P.info? e) fun inf => some (.pointer (some (addA a (i * inf.size))))
      | false => none
    | .slice e, .slice (some a) len _ => match Nat.ble (i + 1) len with
      | true => bnd (P.info? e) fun inf => some (.pointer (some (addA a (i * inf.size))))
      | false => none
    | _, _ => none
  | _ => none

def indexA (P : Program) (t : TypeId) (x ix : Value) : Option Value :=
  match ix with
  | .int _ (.ofNat i) => bnd (P.underlying t) fun u => match u, x with
    | .array len e, .agg cs => match Nat.ble (i + 1) len with
      | true => bnd (P.info? e) fun inf => partA P e cs (i * inf.size)
      | false => none
    | .string, .string s => bnd (s[i]?) fun b => forceN b.toNat fun n => some (.int .u8 n)
    | _, _ => none
  | _ => none

def bytesOf : List Value → ByteArray → Option ByteArray
  | [], s => some s
  | v :: l, s => match v with
    | .int .u8 n => bytesOf l (s.push (UInt8.ofNat n.toNat))
    | _ => none

def firstA (h : Heap) (size n : Nat) : Value → Option (List Value)
  | .slice (some a) _ _ => match n * size with | 0 => some [] | m + 1 => rdCells h a (m + 1)
  | .slice none _ _ => some []
  | .string s => match Nat.beq size 1 && Nat.beq n s.size with | true => some (s.data.toList.map fun b => Value.int .u8 b.toNat) | false => none
  | _ => none

def lenA : Value → Option Nat
  | .slice _ n _ => some n
  | .string s => some s.size
  | _ => none

def strBytes (P : Program) (src dst : TypeId) (id : Nat) (s : ByteArray) : Option Out :=
  bnd (P.underlying src) fun us => bnd (P.underlying dst) fun ud => match us, ud with
  | .string, .slice e => bnd (P.underlying e) fun ue => match ue with
    | .int .u8 => some (.new (.slice (some ⟨id, 0, none⟩) s.size s.size) (mkRow 1 (s.data.map fun b => .int .u8 b.toNat)))
    | _ => none
  | _, _ => none

def convA (P : Program) (h : Heap) (src dst : TypeId) (x : Value) : Option Value :=
  bnd (P.underlying src) fun us => bnd (P.underlying dst) fun ud => match us, ud, x with
  | _, .int k, .int _ n => intV k (k.wrap n)
  | _, .string, .string s => some (.string s)
  | _, .string, .int _ n => some (.string (Utf8.encode n))
  | .slice e, .string, .slice a len _ => bnd (P.underlying e) fun ue => match ue, a with
    | .int .u8, none => some (.string .empty)
    | .int .u8, some a => match len with
      | 0 => some (.string .empty)
      | m + 1 => bnd (rdCells h a (m + 1)) fun l => bnd (bytesOf l .empty) fun s => some (.string s)
    | _, _ => none
  | _, _, _ => none

def allOne : List Value → Bool
  | [] => true
  | v :: l => match oneCell v with | true => allOne l | false => false

def appGrow (h : Heap) (id : Nat) (size len cap n : Nat) (base : Option Addr) (new : List Value) : Option Out :=
  match base with
  | none => match len with
    | 0 => some (.new (.slice (some ⟨id, 0, none⟩) n n) (mkRow size new.toArray))
    | _ => none
  | some a => match a.off, a.spot, h.get a.block with
    | 0, none, some (.row m g z cs) => match Nat.beq g size && Nat.ble 1 size && Nat.ble (len * size) m with
      | true => bnd (wrN cs new (len * size)) fun cs' =>
        some (.act (.slice (some ⟨id, 0, none⟩) (len + n) (len + n)) ((h.set a.block .dead).set id (.row ((len + n) * size) size z cs')))
      | false => none
    | _, _, _ => none

def appIn (h : Heap) (size len cap n : Nat) (base : Option Addr) (new : List Value) : Option Out :=
  match base with
  | none => match n with
    | 0 => some (.val (.slice none len cap))
    | _ => none
  | some a => match n * size, a.spot with
    | _, some _ => none
    | 0, none => some (.val (.slice (some a) (len + n) cap))
    | _, none => bnd (wrCells h (addA a (len * size)) new) fun h' => some (.act (.slice (some a) (len + n) cap) h')

def isSrcD : TypeDesc → Bool
  | .slice _ => true
  | .string => true
  | _ => false

def appendS (P : Program) (h : Heap) (id : Nat) (st xt : TypeId) (base : Option Addr) (len cap : Nat) (x : Value) : Option Out :=
  bnd (P.underlying st) fun u => match u with
  | .slice e => bnd (P.underlying xt) fun xu => match isSrcD xu with
    | false => none
    | true => bnd (P.info? e) fun i => bnd (lenA x) fun n => bnd (firstA h i.size n x) fun new => bnd i.zero fun z =>
      match Nat.ble (len + n) 1000000 && Nat.ble i.bytes 1000 && Nat.beq new.length (n * i.size) && Nat.beq z.cells.size i.size && allOne new with
      | false => none
      | true => match Nat.ble (len + n) cap with
        | true => appIn h i.size len cap n base new
        | false => appGrow h id i.size len cap n base new
  | _ => none

def appendA (P : Program) (h : Heap) (id : Nat) (argTypes : Array TypeId) (args : List Value) : Option Out :=
  match argTypes.toList, args with
  | [st, xt], [.slice base len cap, x] => appendS P h id st xt base len cap x
  | _, _ => none

def lenB (P : Program) (h : Heap) (argTypes : Array TypeId) (args : List Value) : Option Value :=
  bnd (argTypes[0]?) fun t => bnd (P.underlying t) fun u => match u, args with
  | .string, [.string s] => intV .i64 s.size
  | .array n _, [_] => intV .i64 n
  | .pointer arr, [_] => bnd (P.underlying arr) fun v => match v with | .array n _ => intV .i64 n | _ => none
  | .slice _, [.slice _ n _] => intV .i64 n
  | .map _ _, [.map none] => intV .i64 0
  | .map _ _, [.map (some r)] => match h.get r with
    | some (.map es _) => intV .i64 es.length
    | _ => none
  | _, _ => none

def keyEq (u : TypeDesc) (a b : Value) : Option Bool :=
  match u, a, b with
  | .int _, .int k a, .int k' b => match decide (k = k') with | true => some (a == b) | false => none
  | .string, .string a, .string b => some (a == b)
  | .bool, .bool a, .bool b => some (a == b)
  | _, _, _ => none

def findE (u : TypeDesc) (k : Value) : List MapEntry → Nat → Option (Option (Nat × Value))
  | [], _ => some none
  | e :: es, i => bnd (keyEq u k e.key) fun b => match b with
    | true => some (some (i, e.val))
    | false => findE u k es (i + 1)

/-- keys whose type asks for no look into them -/
def keyT : TypeDesc → Bool
  | .int _ => true
  | .string => true
  | .bool => true
  | .pointer _ => true
  | _ => false

def okV (ok : Bool) (v : Value) (b : Bool) : Value := match ok with | true => .tuple #[v, .bool b] | false => v

def lookupA (P : Program) (h : Heap) (t : TypeId) (x ix : Value) (ok : Bool) : Option Value :=
  bnd (P.underlying t) fun u => match u, x with
  | .map kt et, .map none => bnd (P.underlying kt) fun ku => match keyT ku with
    | true => bnd (zeroOf P et) fun z => some (okV ok z false)
    | false => none
  | .map kt et, .map (some r) => match h.get r with
    | some (.map es _) => bnd (P.underlying kt) fun ku => match keyT ku with
      | true => bnd (findE ku ix es 0) fun f => match f with
        | some (_, v) => some (okV ok v true)
        | none => bnd (zeroOf P et) fun z => some (okV ok z false)
      | false => none
    | _ => none
  | _, _ => none

def modE (v : Value) : List MapEntry → Nat → List MapEntry
  | [], _ => []
  | e :: es, 0 => { e with val := v } :: es
  | e :: es, i + 1 => e :: modE v es i

def updateA (P : Program) (h : Heap) (t : TypeId) (m k x : Value) : Option Heap :=
  bnd (P.underlying t) fun u => match u, m with
  | .map kt _, .map (some r) => match h.get r with
    | some (.map es c) => bnd (P.underlying kt) fun ku => match keyT ku with
      | true => bnd (findE ku k es 0) fun f => match f with
        | some (i, _) => some (h.set r (.map (modE x es i) c))
        | none => some (h.set r (.map (es ++ [{ key := k, val := x, born := c }]) (c + 1)))
      | false => none
    | _ => none
  | _, _ => none

def deleteA (P : Program) (h : Heap) (argTypes : Array TypeId) (args : List Value) : Option Out :=
  bnd (argTypes[0]?) fun t => bnd (P.underlying t) fun u => match u, args with
  | .map kt _, [.map (some r), k] => match h.get r with
    | some (.map es c) => bnd (P.underlying kt) fun ku => match keyT ku with
      | true => bnd (findE ku k es 0) fun f => match f with
        | some (i, _) => some (.act undefV (h.set r (.map (es.eraseIdx i) c)))
        | none => some (.act undefV h)
      | false => none
    | _ => none
  | _, _ => none

def minF (mx : Bool) (k : IntKind) (x : Int) : List Value → Option Value
  | [] => some (.int k x)
  | v :: l => match v with
    | .int _ y => minF mx k (match mx with | true => (if x < y then y else x) | false => (if y < x then y else x)) l
    | _ => none

def minA (mx : Bool) : List Value → Option Value
  | .int k x :: l => minF mx k x l
  | _ => none

def copyA (P : Program) (h : Heap) (argTypes : Array TypeId) (args : List Value) : Option Out :=
  bnd (argTypes[0]?) fun t => bnd (P.underlying t) fun u => match u, args with
  | .slice e, [.slice (some a) dLen _, src] => bnd (P.info? e) fun i => bnd (lenA src) fun sl =>
     bnd (firstA h i.size (Nat.min sl dLen) src) fun cells => match cells with
     | [] => bnd (intV .i64 (Nat.min sl dLen : Nat)) fun v => some (.val v)
     | _ => bnd (wrCells h a cells) fun h' => bnd (intV .i64 (Nat.min sl dLen : Nat)) fun v => some (.act v h')
  | _, _ => none

def builtinA (P : Program) (h : Heap) (id : Nat) (b : Builtin) (argTypes : Array TypeId) (args : List Value) : Option Out :=
  match b with
  | .append => appendA P h id argTypes args
  | .len => bnd (lenB P h argTypes args) fun v => some (.val v)
  | .copy => copyA P h argTypes args
  | .delete => deleteA P h argTypes args
  | .min => bnd (minA false args) fun v => some (.val v)
  | .max => bnd (minA true args) fun v => some (.val v)
  | _ => none

def opvs (P : Program) (ts : Tr Value) : List Operand → Option (List Value)
  | [] => some []
  | x :: xs => bnd (opv P ts x) fun v => bnd (opvs P ts xs) fun l => some (v :: l)

def opvPs (P : Program) (ts : Tr Value) : List (Nat × Operand) → Option (List (Nat × Value))
  | [] => some []
  | x :: xs => bnd (opv P ts x.2) fun v => bnd (opvPs P ts xs) fun l => some ((x.1, v) :: l)

def opvO (P : Program) (ts : Tr Value) : Option Operand → Option (Option Value)
  | none => some none
  | some x => bnd (opv P ts x) fun v => some (some v)

/-- may it be entered: a body, and no row of the model's own -/
def enterable (P : Program) (f : FuncId) : Bool :=
  match P.funcs[f]? with
  | some fn => fn.body.isSome && !(fn.name == "runtime.NumGoroutine")
  | none => false

def isClone (P : Program) (f : FuncId) : Bool :=
  match P.funcs[f]? with
  | some fn => fn.body.isNone && (fn.name == "maps.clone" && fn.origin == "")
  | none => false

def cloneA (h : Heap) (id : Nat) (args : List Value) : Option Out :=
  match args with
  | [.iface t (.map (some r))] => match h.get r with
    | some (.map es c) => some (.new (.iface t (.map (some id))) (.map es c))
    | _ => none
  | _ => none

def goFn (P : Program) (h : Heap) (id : Nat) (f : FuncId) (args : List Value) : Option Out :=
  match enterable P f with
  | true => some (.enter f args)
  | false => match isClone P f with
    | true => cloneA h id args
    | false => none

def methodA (P : Program) (t : TypeId) (v : Value) (name : String) (args : List Value) : Option Out :=
  bnd (P.info? t) fun i => bnd (i.methods.find? (·.name == name)) fun m => bnd (P.underlying t) fun u =>
    match m.path.toList, m.func, u, v with
    | [], some (f, true), .pointer _, .pointer (some a) => match enterable P f with
      | true => some (.enter f (.pointer (some a) :: args))
      | false => none
    | _, _, _, _ => none

def callA (P : Program) (h : Heap) (id : Nat) (ts : Tr Value) (c : Call) : Option Out :=
  bnd (opvs P ts c.args.toList) fun args => match c.callee with
  | .builtin b => builtinA P h id b c.argTypes args
  | .value f => bnd (opv P ts f) fun fv => match fv with
    | .func (.func g) first captured => goFn P h id g (first.toList ++ args ++ captured.toList)
    | .func (.method name) first captured => match first.toList ++ args with
      | .iface t v :: rest => methodA P t v name rest
      | _ => none
    | _ => none
  | .invoke r name => bnd (opv P ts r) fun rv => match rv with
    | .iface t v => methodA P t v name args
    | _ => none

def nextA (h : Heap) (r : Nat) (isS : Bool) : Option Out :=
  match h.get r, isS with
  | some (.siter s pos), true => match Nat.ble (pos + 1) s.size with
    | true => forceI (Utf8.decode s pos).1 fun c => forceN (pos + (Utf8.decode s pos).2) fun p => bnd (intV .i64 pos) fun i =>
        some (.act (.tuple #[.bool true, i, .int .i32 c]) (h.set r (.siter s p)))
    | false => some (.val (.tuple #[.bool false]))
  | _, _ => none

def allInfo (P : Program) : List Field → Bool
  | [] => true
  | f :: fs => match P.info? f.type with
    | some _ => allInfo P fs
    | none => false

def placeF (P : Program) (fs : Array Field) (j : Nat) : Option (Nat × Nat) :=
  bnd (fs[j]?) fun f => bnd (P.info? f.type) fun i => some (f.offset, i.size)

def buildA (P : Program) (t : TypeId) (ps : List (Nat × Value)) : Option Value :=
  bnd (P.info? t) fun i => bnd i.zero fun z => bnd (P.underlying t) fun u => match plainV z, u with
    | true, .struct fs => match allInfo P fs.toList with
      | true => bnd (Instr.fill (placeF P fs) z.cells ps) fun cs => some (.agg cs)
      | false => none
    | true, .array _ e => bnd (P.info? e) fun ie => bnd (Instr.fill (fun j => some (j * ie.size, ie.size)) z.cells ps) fun cs => some (.agg cs)
    | _, _ => none

def sliceLit (P : Program) (t : TypeId) (id len : Nat) (ps : List (Nat × Value)) : Option Out :=
  bnd (P.underlying t) fun u => match u with
    | .slice e => bnd (P.info? e) fun ie => bnd ie.zero fun z => match plainV z && Nat.ble (len * ie.size) 100000 && (Nat.beq z.cells.size ie.size) with
      | true => bnd (Instr.fill (fun j => some (j * ie.size, ie.size)) ((Array.range (len * ie.size)).map (z.cells[· % z.cells.size]!)) ps) fun cs =>
          some (.new (.slice (some ⟨id, 0, none⟩) len len) (mkRow ie.size cs))
      | false => none
    | _ => none

def makeSl (P : Program) (t : TypeId) (id : Nat) (lv cv : Value) : Option Out :=
  bnd (P.underlying t) fun u => match u, lv, cv with
    | .slice e, .int _ (.ofNat l), .int _ (.ofNat c) => bnd (P.info? e) fun ie => bnd ie.zero fun z =>
        match plainV z && Nat.ble l c && Nat.ble c 1000000 && Nat.ble ie.bytes 1000000 && (Nat.beq z.cells.size ie.size) with
        | true => some (.new (.slice (some ⟨id, 0, none⟩) l c) (.row (c * ie.size) ie.size z.cells .lf))
        | false => none
    | _, _, _ => none

def fieldAd (P : Program) (s : TypeId) (x : Value) (f : Nat) : Option Value :=
  bnd (P.underlying s) fun u => match u, x with
    | .struct fs, .pointer (some a) => bnd (fs[f]?) fun fl => bnd (P.info? fl.type) fun i => match i.size with
      | 0 => none
      | _ => some (.pointer (some (addA a fl.offset)))
    | _, _ => none

def fieldOf (P : Program) (t : TypeId) (x : Value) (f : Nat) : Option Value :=
  bnd (P.underlying t) fun u => match u, x with
    | .struct fs, .agg cs => bnd (fs[f]?) fun fl => partA P fl.type cs fl.offset
    | _, _ => none

def assertA (P : Program) (t : TypeId) (ok : Bool) (x : Value) : Option Value :=
  bnd (P.underlying t) fun u => match u, x with
    | .interface want, .iface d v => bnd (P.info? d) fun i => match Instr.missingMethod want i.methods, ok with
      | none, _ => some (okV ok (.iface d v) true)
      | some _, true => bnd (zeroOf P t) fun z => some (.tuple #[z, .bool false])
      | some _, false => none
    | .interface _, .nilIface => match ok with
      | true => bnd (zeroOf P t) fun z => some (.tuple #[z, .bool false])
      | false => none
    | _, .iface d v => match Nat.beq d t, ok with
      | true, _ => some (okV ok v true)
      | false, true => bnd (zeroOf P t) fun z => some (.tuple #[z, .bool false])
      | false, false => none
    | _, .nilIface => match ok with
      | true => bnd (zeroOf P t) fun z => some (.tuple #[z, .bool false])
      | false => none
    | _, _ => none

def toVal (v : Option Value) : Option Out := match v with | none => none | some v => some (.val v)

def opPick (P : Program) (ts : Tr Value) (c a b : Operand) : Option Out :=
  bnd (opv P ts c) fun c => bnd (opv P ts a) fun a => bnd (opv P ts b) fun b => match c with
    | .bool true => some (.val a)
    | .bool false => some (.val b)
    | _ => none

def opAlloc (P : Program) (id : Nat) (e : TypeId) : Option Out :=
  bnd (zeroOf P e) fun z => some (.new (.pointer (some ⟨id, 0, none⟩)) (mkRow 0 z.cells))

def opBox (P : Program) (id : Nat) (ts : Tr Value) (x : Operand) : Option Out :=
  bnd (opv P ts x) fun v => some (.new (.pointer (some ⟨id, 0, none⟩)) (mkRow 0 v.cells))

def opLoad (P : Program) (h : Heap) (t : TypeId) (av : Value) : Option Out :=
  match av with
  | .pointer (some a) => toVal (loadV P h t a)
  | _ => none

def opStore (P : Program) (h : Heap) (t : TypeId) (av xv : Value) : Option Out :=
  match av with
  | .pointer (some a) => bnd (storeV P h t a xv) fun h' => some (.act undefV h')
  | _ => none

def opNil (v : Value) : Option Out :=
  match v with
  | .pointer (some a) => some (.val (.pointer (some a)))
  | .func (.func f) a b => some (.val (.func (.func f) a b))
  | .iface t v => some (.val (.iface t v))
  | _ => none

def opConv (P : Program) (h : Heap) (id : Nat) (s d : TypeId) (a : Value) : Option Out :=
  match a, P.underlying d with
  | .string x, some (.slice _) => strBytes P s d id x
  | a, _ => toVal (convA P h s d a)

def opIfc (P : Program) (t : TypeId) (a : Value) : Option Out :=
  bnd (P.underlying t) fun u => match isIfc u with
    | true => none
    | false => some (.val (.iface t a))

def opExtract (tv : Value) (i : Nat) : Option Out :=
  match tv with
  | .tuple vs => toVal (vs[i]?)
  | _ => none

def opRange (P : Program) (id : Nat) (t : TypeId) (xv : Value) : Option Out :=
  bnd (P.underlying t) fun u => match u, xv with
    | .string, .string s => some (.new (.pointer (some ⟨id, 0, none⟩)) (.siter s 0))
    | _, _ => none

def opNext (h : Heap) (isS : Bool) (iv : Value) : Option Out :=
  match iv with
  | .pointer (some a) => match a.off, a.spot with
    | 0, none => nextA h a.block isS
    | _, _ => none
  | _ => none

def opUpd (P : Program) (h : Heap) (ts : Tr Value) (t : TypeId) (m k x : Operand) : Option Out :=
  bnd (opv P ts m) fun mv => bnd (opv P ts k) fun kv => bnd (opv P ts x) fun xv => bnd (updateA P h t mv kv xv) fun h' => some (.act undefV h')

def opSlice (P : Program) (ts : Tr Value) (t : TypeId) (x : Operand) (lo hi mx : Option Operand) : Option Out :=
  bnd (opv P ts x) fun xv => bnd (opvO P ts lo) fun l => bnd (opvO P ts hi) fun hh => bnd (opvO P ts mx) fun m => toVal (sliceA P t xv l hh m)

def opFunc (P : Program) (ts : Tr Value) (fn : Fn) (first captured : Array Operand) : Option Out :=
  bnd (opvs P ts first.toList) fun f => bnd (opvs P ts captured.toList) fun c => some (.val (.func fn f.toArray c.toArray))

def op1 (P : Program) (ts : Tr Value) (x : Operand) (k : Value → Option Out) : Option Out := match opv P ts x with | none => none | some v => k v

def op2 (P : Program) (ts : Tr Value) (x y : Operand) (k : Value → Value → Option Out) : Option Out :=
  match opv P ts x with
  | none => none
  | some a => match opv P ts y with
    | none => none
    | some b => k a b

def evOp (P : Program) (h : Heap) (id : Nat) (ts : Tr Value) (o : Oper) : Option Out :=
  match o.op with
  | .move x => toVal (opv P ts x)
  | .assign x => toVal (opv P ts x)
  | .pick c a b => opPick P ts c a b
  | .alloc e => opAlloc P id e
  | .box _ x => opBox P id ts x
  | .build t parts => bnd (opvPs P ts parts.toList) fun ps => toVal (buildA P t ps)
  | .buildSlice t len parts => bnd (opvPs P ts parts.toList) fun ps => sliceLit P t id len ps
  | .load t a => op1 P ts a (opLoad P h t)
  | .store t a x => op2 P ts a x (opStore P h t)
  | .nilCheck x => op1 P ts x opNil
  | .binOp op t x y _ => op2 P ts x y fun a b => toVal (binA P h op t (isConstO x || isConstO y) a b)
  | .unOp op _ x => op1 P ts x fun a => toVal (unA op a)
  | .convert s d x => op1 P ts x (opConv P h id s d)
  | .makeInterface t x => op1 P ts x (opIfc P t)
  | .makeFunc fn first captured => opFunc P ts fn first captured
  | .makeMap _ none => some (.new (.map (some id)) (.map [] 0))
  | .makeSlice t l c => op2 P ts l c (makeSl P t id)
  | .slice t x lo hi mx => opSlice P ts t x lo hi mx
  | .fieldAddr s x f => op1 P ts x fun xv => toVal (fieldAd P s xv f)
  | .field t x f => op1 P ts x fun xv => toVal (fieldOf P t xv f)
  | .indexAddr t x ix => op2 P ts x ix fun xv iv => toVal (idxA P t xv iv)
  | .index t x ix => op2 P ts x ix fun xv iv => toVal (indexA P t xv iv)
  | .lookup t x ix ok => op2 P ts x ix fun xv iv => toVal (lookupA P h t xv iv ok)
  | .mapUpdate t m k x => opUpd P h ts t m k x
  | .insert t m k x => opUpd P h ts t m k x
  | .extract t i => op1 P ts t fun tv => opExtract tv i
  | .range t x => op1 P ts x (opRange P id t)
  | .next it isS => op1 P ts it (opNext h isS)
  | .typeAssert x _ t ok => op1 P ts x fun xv => toVal (assertA P t ok xv)
  | .call c => callA P h id ts c
  | _ => none

abbrev OpF := Program → Heap → Nat → Tr Value → Option Out
def fMove (x : Operand) : OpF := fun P _ _ ts => toVal (opv P ts x)
def fPick (c a b : Operand) : OpF := fun P _ _ ts => opPick P ts c a b
def fAlloc (e : TypeId) : OpF := fun P _ id _ => opAlloc P id e
def fBox (_ : TypeId) (x : Operand) : OpF := fun P _ id ts => opBox P id ts x
def fBuild (t : TypeId) (parts : Array (Nat × Operand)) : OpF := fun P _ _ ts => bnd (opvPs P ts parts.toList) fun ps => toVal (buildA P t ps)
def fBuildSlice (t : TypeId) (len : Nat) (parts : Array (Nat × Operand)) : OpF := fun P _ id ts => bnd (opvPs P ts parts.toList) fun ps => sliceLit P t id len ps
def fUpd (t : TypeId) (m k x : Operand) : OpF := fun P h _ ts => opUpd P h ts t m k x
def fLoad (t : TypeId) (a : Operand) : OpF := fun P h _ ts => op1 P ts a (opLoad P h t)
def fStore (t : TypeId) (a x : Operand) : OpF := fun P h _ ts => op2 P ts a x (opStore P h t)
def fNil (x : Operand) : OpF := fun P _ _ ts => op1 P ts x opNil
def fBin (op : BinOp) (t : TypeId) (x y : Operand) (_ : TypeId) : OpF := fun P h _ ts => op2 P ts x y fun a b => toVal (binA P h op t (isConstO x || isConstO y) a b)
def fUn (op : UnOp) (_ : TypeId) (x : Operand) : OpF := fun P _ _ ts => op1 P ts x fun a => toVal (unA op a)
def fConv (s d : TypeId) (x : Operand) : OpF := fun P h id ts => op1 P ts x (opConv P h id s d)
def fIfc (t : TypeId) (x : Operand) : OpF := fun P _ _ ts => op1 P ts x (opIfc P t)
def fFunc (fn : Fn) (first captured : Array Operand) : OpF := fun P _ _ ts => opFunc P ts fn first captured
def opMakeMap (id : Nat) (r : Option Operand) : Option Out := match r with | none => some (.new (.map (some id)) (.map [] 0)) | some _ => none
def fMakeMap (_ : TypeId) (r : Option Operand) : OpF := fun _ _ id _ => opMakeMap id r
def fMakeSlice (t : TypeId) (l c : Operand) : OpF := fun P _ id ts => op2 P ts l c (makeSl P t id)
def fSlice (t : TypeId) (x : Operand) (lo hi mx : Option Operand) : OpF := fun P _ _ ts => opSlice P ts t x lo hi mx
def fFieldAddr (s : TypeId) (x : Operand) (f : Nat) : OpF := fun P _ _ ts => op1 P ts x fun xv => toVal (fieldAd P s xv f)
def fField (s : TypeId) (x : Operand) (f : Nat) : OpF := fun P _ _ ts => op1 P ts x fun xv => toVal (fieldOf P s xv f)
def fIndexAddr (t : TypeId) (x ix : Operand) : OpF := fun P _ _ ts => op2 P ts x ix fun xv iv => toVal (idxA P t xv iv)
def fIndex (t : TypeId) (x ix : Operand) : OpF := fun P _ _ ts => op2 P ts x ix fun xv iv => toVal (indexA P t xv iv)
def fLookup (t : TypeId) (x ix : Operand) (ok : Bool) : OpF := fun P h _ ts => op2 P ts x ix fun xv iv => toVal (lookupA P h t xv iv ok)
def fRange (t : TypeId) (x : Operand) : OpF := fun P _ id ts => op1 P ts x (opRange P id t)
def fNext (it : Operand) (isS : Bool) : OpF := fun P h _ ts => op1 P ts it (opNext h isS)
def fAssert (x : Operand) (_ t : TypeId) (ok : Bool) : OpF := fun P _ _ ts => op1 P ts x fun xv => toVal (assertA P t ok xv)
def fExtract (t : Operand) (i : Nat) : OpF := fun P _ _ ts => op1 P ts t fun tv => opExtract tv i
def fCall (c : Call) : OpF := fun P h id ts => callA P h id ts c
def fNone : OpF := fun _ _ _ _ => none

/-- the same, by the recursor: the kernel goes through it faster -/
def opF (o : Op) : OpF :=
  Op.rec (motive := fun _ => OpF) fMove fMove fPick fAlloc fBox fBuild fBuildSlice fUpd fLoad fStore (fun _ => fNone) (fun _ => fNone) fNil fBin fUn fConv (fun _ _ => fNone) fIfc fFunc fMakeMap
    (fun _ _ => fNone) fMakeSlice fSlice fFieldAddr fField fIndexAddr fIndex fLookup fUpd (fun _ _ _ => fNone) (fun _ _ _ _ => fNone) fRange fNext (fun _ => fNone) fAssert fExtract fCall
    (fun _ => fNone) (fun _ => fNone) (fun _ => fNone) (fun _ _ => fNone) (fun _ _ _ => fNone) (fun _ _ => fNone) o

def evOpF (P : Program) (h : Heap) (id : Nat) (ts : Tr Value) (o : Oper) : Option Out := opF o.op P h id ts

theorem evOpF_eq (P : Program) (h : Heap) (id : Nat) (ts : Tr Value) (o : Oper) : evOpF P h id ts o = evOp P h id ts o := by
  unfold evOpF evOp
  cases o.op with
  | makeMap t r => cases r <;> rfl
  | _ => rfl

/-! ### The same value -/

def veqS : Value → Value → Bool
  | .bool a, .bool b => a == b
  | .int k a, .int k' b => decide (k = k') && decide (a = b)
  | .string a, .string b => decide (a.data = b.data)
  | .pointer none, .pointer none => true
  | .pointer (some a), .pointer (some b) => Nat.beq a.block b.block && Nat.beq a.off b.off && decide (a.spot = b.spot)
  | .slice none a b, .slice none c d => Nat.beq a c && Nat.beq b d
  | .slice (some x) a b, .slice (some y) c d => Nat.beq x.block y.block && Nat.beq x.off y.off && decide (x.spot = y.spot) && Nat.beq a c && Nat.beq b d
  | .map none, .map none => true
  | .map (some a), .map (some b) => Nat.beq a b
  | .nilFunc, .nilFunc => true
  | .nilIface, .nilIface => true
  | _, _ => false

def veqL : List Value → List Value → Bool
  | [], [] => true
  | a :: x, b :: y => veqS a b && veqL x y
  | _, _ => false

def veq : Value → Value → Bool
  | .agg a, .agg b => veqL a.toList b.toList
  | .tuple a, .tuple b => veqL a.toList b.toList
  | .iface t a, .iface u b => Nat.beq t u && veqS a b
  | .func f a b, .func g c d => decide (f = g) && veqL a.toList c.toList && veqL b.toList d.toList
  | a, b => veqS a b

/-! ### Code -/

inductive Ex where
  | normal
  | exit (id : Nat)
  | goto (l : Nat)
  | ret

structure Rs where
  e : Ex
  v : Value
  ts : Tr Value
  h : Heap
  nx : Nat

inductive Task where
  | code (c : Code)
  | scope (b c : Code)
  | ops (all : Array Oper) (l : List Oper)
  | any (all : Array Oper) (l : List Oper) (bs : List Nat) (i nx0 : Nat) (act : Nat) (hs : List (Nat × Heap)) (rq : List (Nat × Oper × Value × Tr Value))
  | call (f : FuncId) (args : List Value)

def wantedA (ts : Tr Value) (all : Array Oper) (o : Oper) : Bool :=
  match o.guard with
  | none => true
  | some (j, want) => match bnd (all[j]?) (·.dst) with
    | some d => match ts.get d with
      | some (.bool b) => b == want
      | _ => false
    | none => false

def putA (ts : Tr Value) (n : Nat) (dst : Option Tmp) (v : Value) : Option (Tr Value) :=
  match dst with
  | none => some ts
  | some d => match Nat.ble (d + 1) n with
    | true => some (ts.set d v)
    | false => none

/-- does it read memory? -/
def readsH : Op → Bool
  | .move _ => false
  | .assign _ => false
  | .pick .. => false
  | .build .. => false
  | .nilCheck _ => false
  | .unOp .. => false
  | .makeInterface .. => false
  | .makeFunc .. => false
  | .slice .. => false
  | .fieldAddr .. => false
  | .field .. => false
  | .indexAddr .. => false
  | .index .. => false
  | .extract .. => false
  | _ => true

/-- lays a block, whatever memory holds -/
def isNewQ : Op → Bool
  | .alloc _ => true
  | .box .. => true
  | .buildSlice .. => true
  | .makeMap .. => true
  | .makeSlice .. => true
  | .convert .. => true
  | .range .. => true
  | _ => false

def sameOut (P : Program) (h : Heap) (ts : Tr Value) (o : Oper) (v : Value) : Bool :=
  match evOpF P h 0 ts o with
  | some (.val u) => veq u v
  | _ => false

/-- those that may come behind an operation yield what they yielded -/
def recheck (P : Program) (h : Heap) (b : Nat) : List (Nat × Oper × Value × Tr Value) → Bool
  | [] => true
  | (i, o, v, ts) :: l => match Nat.testBit b i || sameOut P h ts o v with
    | true => recheck P h b l
    | false => false

/-- in the memories ahead of what need not have come up -/
def backcheck (P : Program) (ts : Tr Value) (b : Nat) (o : Oper) (v : Value) : List (Nat × Heap) → Bool
  | [] => true
  | (i, h) :: l => match Nat.testBit b i || sameOut P h ts o v with
    | true => backcheck P ts b o v l
    | false => false

def resA (P : Program) (h : Heap) (ts : Tr Value) : List ResultVar → Option (List Value)
  | [] => some []
  | .tmp t :: l => bnd (resA P h ts l) fun r => some ((match ts.get t with | some v => v | none => undefV) :: r)
  | .cell a t :: l => match ts.get a with
    | some (.pointer (some a)) => bnd (loadV P h t a) fun v => bnd (resA P h ts l) fun r => some (v :: r)
    | _ => none

def oneV (l : List Value) : Value := match l with
  | [v] => v
  | l => .tuple l.toArray

/-- all that an operation names -/
def namesO (ops : Array Oper) (o : Oper) : List Tmp := o.dst.toList ++ o.looksAt ops

/-- of two operations one of which writes what the other one names the first is ahead of the second -/
def disc (ops : Array Oper) : Bool :=
  (List.range ops.size).all fun j => match ops[j]? with
    | none => true
    | some oj => (List.range j).all fun i => match ops[i]? with
      | none => true
      | some oi => Nat.testBit ((Region.before ops).getD j 0) i || (match oi.dst with
          | none => true
          | some d => !(namesO ops oj).contains d) && (match oj.dst with
          | none => true
          | some d => !(namesO ops oi).contains d)

/-- what is ahead of an operation has a lower number; no operation is a select -/
def down (ops : Array Oper) : Bool :=
  (List.range ops.size).all fun j => match ops[j]? with
    | none => true
    | some o => o.after.toList.all fun e => !Region.binds .any e || Nat.ble (e.on + 1) j

abbrev Rec := Task → Tr Value → Nat → Heap → Nat → Option Rs

def then1 (rec : Rec) (b : Code) (n : Nat) (r : Option Rs) : Option Rs :=
  match r with
  | none => none
  | some r => match r.e with
    | .normal => rec (.code b) r.ts n r.h r.nx
    | _ => some r

def condS (rec : Rec) (v : Option Value) (x y : Code) (ts : Tr Value) (n : Nat) (h : Heap) (nx : Nat) : Option Rs :=
  match v with
  | some (.bool true) => rec (.code x) ts n h nx
  | some (.bool false) => rec (.code y) ts n h nx
  | _ => none

def blockS (id : Nat) (r : Option Rs) : Option Rs :=
  match r with
  | none => none
  | some r => match r.e with
    | .exit id' => match Nat.beq id' id with
      | true => some ⟨.normal, r.v, r.ts, r.h, r.nx⟩
      | false => some r
    | _ => some r

def regionS (P : Program) (rec : Rec) (ops : Array Oper) (ts : Tr Value) (n : Nat) (h : Heap) (nx : Nat) : Option Rs :=
  match disc ops && down ops && P.follows .mixedOrders with
  | true => rec (.any ops ops.toList (Region.before ops).toList 0 nx 0 [] []) ts n h (nx + ops.size)
  | false => none

def codeS (P : Program) (rec : Rec) (c : Code) (ts : Tr Value) (n : Nat) (h : Heap) (nx : Nat) : Option Rs :=
  match c with
  | .skip => some ⟨.normal, undefV, ts, h, nx⟩
  | .label _ => some ⟨.normal, undefV, ts, h, nx⟩
  | .seq a b => then1 rec b n (rec (.code a) ts n h nx)
  | .cond c x y => condS rec (opv P ts c) x y ts n h nx
  | .block id b => blockS id (rec (.code b) ts n h nx)
  | .loop b => then1 rec (.loop b) n (rec (.code b) ts n h nx)
  | .exit id => some ⟨.exit id, undefV, ts, h, nx⟩
  | .goto l => some ⟨.goto l, undefV, ts, h, nx⟩
  | .ret => some ⟨.ret, undefV, ts, h, nx⟩
  | .scope b => rec (.scope b b) ts n h nx
  | .region _ ops false => rec (.ops ops ops.toList) ts n h nx
  | .region _ ops true => regionS P rec ops ts n h nx
  | _ => none

abbrev CodeF := Program → Rec → Tr Value → Nat → Heap → Nat → Option Rs
def cSkip : CodeF := fun _ _ ts _ h nx => some ⟨.normal, undefV, ts, h, nx⟩
def cLabel (_ : Nat) : CodeF := cSkip
def cRegion (_ : Nat) (ops : Array Oper) (d : Bool) : CodeF := fun P rec ts n h nx => match d with
  | false => rec (.ops ops ops.toList) ts n h nx
  | true => regionS P rec ops ts n h nx
def cSeq (a b : Code) (_ _ : CodeF) : CodeF := fun _ rec ts n h nx => then1 rec b n (rec (.code a) ts n h nx)
def cCond (c : Operand) (x y : Code) (_ _ : CodeF) : CodeF := fun P rec ts n h nx => condS rec (opv P ts c) x y ts n h nx
def cBlock (id : Nat) (b : Code) (_ : CodeF) : CodeF := fun _ rec ts n h nx => blockS id (rec (.code b) ts n h nx)
def cLoop (b : Code) (_ : CodeF) : CodeF := fun _ rec ts n h nx => then1 rec (.loop b) n (rec (.code b) ts n h nx)
def cRange (_ : Operand) (_ : Array Tmp) (_ _ : Code) (_ _ : CodeF) : CodeF := fun _ _ _ _ _ _ => none
def cExit (id : Nat) : CodeF := fun _ _ ts _ h nx => some ⟨.exit id, undefV, ts, h, nx⟩
def cGoto (id : Nat) : CodeF := fun _ _ ts _ h nx => some ⟨.goto id, undefV, ts, h, nx⟩
def cRet : CodeF := fun _ _ ts _ h nx => some ⟨.ret, undefV, ts, h, nx⟩
def cScope (b : Code) (_ : CodeF) : CodeF := fun _ rec ts n h nx => rec (.scope b b) ts n h nx
def cRefuse (_ : String) : CodeF := fun _ _ _ _ _ _ => none

def codeF (c : Code) : CodeF :=
  Code.rec (motive := fun _ => CodeF) cSkip cRegion cSeq cCond cBlock cLoop cRange cExit cScope cLabel cGoto cRet cRefuse c

theorem codeF_eq (P : Program) (rec : Rec) (c : Code) (ts : Tr Value) (n : Nat) (h : Heap) (nx : Nat) : codeF c P rec ts n h nx = codeS P rec c ts n h nx := by
  cases c with
  | region id ops d => cases d <;> rfl
  | _ => rfl

def scopeS (rec : Rec) (b : Code) (n : Nat) (r : Option Rs) : Option Rs :=
  match r with
  | none => none
  | some r => match r.e with
    | .goto l => match findLabel b l with
      | some rest => rec (.scope b rest) r.ts n r.h r.nx
      | none => some r
    | _ => some r

def goOps (rec : Rec) (all : Array Oper) (l : List Oper) (ts : Option (Tr Value)) (n : Nat) (h : Heap) (nx : Nat) : Option Rs :=
  match ts with
  | none => none
  | some ts => rec (.ops all l) ts n h nx

def retOps (rec : Rec) (all : Array Oper) (l : List Oper) (ts : Tr Value) (dst : Option Tmp) (n : Nat) (r : Option Rs) : Option Rs :=
  match r with
  | none => none
  | some r => goOps rec all l (putA ts n dst r.v) n r.h r.nx

def outOps (rec : Rec) (all : Array Oper) (l : List Oper) (ts : Tr Value) (dst : Option Tmp) (n : Nat) (h : Heap) (nx : Nat) (r : Option Out) : Option Rs :=
  match r with
  | none => none
  | some r => match r with
    | .val v => goOps rec all l (putA ts n dst v) n h nx
    | .new v ob => goOps rec all l (putA ts n dst v) n (h.set nx ob) (nx + 1)
    | .act v h' => goOps rec all l (putA ts n dst v) n h' (nx + 1)
    | .enter f args => retOps rec all l ts dst n (rec (.call f args) .lf 0 h nx)

def opsS (P : Program) (rec : Rec) (all : Array Oper) (l : List Oper) (ts : Tr Value) (n : Nat) (h : Heap) (nx : Nat) : Option Rs :=
  match l with
  | [] => some ⟨.normal, undefV, ts, h, nx⟩
  | o :: l => match wantedA ts all o with
    | false => goOps rec all l (putA ts n o.dst undefV) n h nx
    | true => outOps rec all l ts o.dst n h nx (evOpF P h nx ts o)

def goAny (rec : Rec) (t : Task) (ts : Option (Tr Value)) (n : Nat) (h : Heap) (nx : Nat) : Option Rs :=
  match ts with
  | none => none
  | some ts => rec t ts n h nx

/-- an operation that others may not pass by -/
def actAny (P : Program) (rec : Rec) (all : Array Oper) (l : List Oper) (b : Nat) (bs : List Nat) (i nx0 act : Nat) (hs : List (Nat × Heap)) (rq : List (Nat × Oper × Value × Tr Value))
    (ts : Tr Value) (dst : Option Tmp) (n : Nat) (h : Heap) (v : Value) (h' : Heap) (nx : Nat) : Option Rs :=
  match Nat.beq (Nat.land act b) act && recheck P h' b rq with
  | true => goAny rec (.any all l bs (i + 1) nx0 (act + 2 ^ i) ((i, h) :: hs) rq) (putA ts n dst v) n h' nx
  | false => none

def retAny (P : Program) (rec : Rec) (all : Array Oper) (l : List Oper) (b : Nat) (bs : List Nat) (i nx0 act : Nat) (hs : List (Nat × Heap)) (rq : List (Nat × Oper × Value × Tr Value))
    (ts : Tr Value) (dst : Option Tmp) (n : Nat) (h : Heap) (r : Option Rs) : Option Rs :=
  match r with
  | none => none
  | some r => actAny P rec all l b bs i nx0 act hs rq ts dst n h r.v r.h r.nx

def valAny (P : Program) (rec : Rec) (all : Array Oper) (l : List Oper) (b : Nat) (bs : List Nat) (i nx0 act : Nat) (hs : List (Nat × Heap)) (rq : List (Nat × Oper × Value × Tr Value))
    (ts : Tr Value) (o : Oper) (n : Nat) (h : Heap) (nx : Nat) (v : Value) : Option Rs :=
  match readsH o.op with
  | false => goAny rec (.any all l bs (i + 1) nx0 act hs rq) (putA ts n o.dst v) n h nx
  | true => match backcheck P ts b o v hs with
    | true => goAny rec (.any all l bs (i + 1) nx0 act hs ((i, o, v, ts) :: rq)) (putA ts n o.dst v) n h nx
    | false => none

def newAny (P : Program) (rec : Rec) (all : Array Oper) (l : List Oper) (b : Nat) (bs : List Nat) (i nx0 act : Nat) (hs : List (Nat × Heap)) (rq : List (Nat × Oper × Value × Tr Value))
    (ts : Tr Value) (o : Oper) (n : Nat) (h : Heap) (nx : Nat) (v : Value) (ob : AObj) : Option Rs :=
  match isNewQ o.op with
  | true => goAny rec (.any all l bs (i + 1) nx0 act hs rq) (putA ts n o.dst v) n (h.set (nx0 + i) ob) nx
  | false => actAny P rec all l b bs i nx0 act hs rq ts o.dst n h v (h.set (nx0 + i) ob) nx

def outAny (P : Program) (rec : Rec) (all : Array Oper) (l : List Oper) (b : Nat) (bs : List Nat) (i nx0 act : Nat) (hs : List (Nat × Heap)) (rq : List (Nat × Oper × Value × Tr Value))
    (ts : Tr Value) (o : Oper) (n : Nat) (h : Heap) (nx : Nat) (r : Option Out) : Option Rs :=
  match r with
  | none => none
  | some r => match r with
    | .val v => valAny P rec all l b bs i nx0 act hs rq ts o n h nx v
    | .new v ob => newAny P rec all l b bs i nx0 act hs rq ts o n h nx v ob
    | .act v h' => actAny P rec all l b bs i nx0 act hs rq ts o.dst n h v h' nx
    | .enter f args => retAny P rec all l b bs i nx0 act hs rq ts o.dst n h (rec (.call f args) .lf 0 h nx)

def anyS (P : Program) (rec : Rec) (all : Array Oper) (l : List Oper) (bs : List Nat) (i nx0 act : Nat) (hs : List (Nat × Heap)) (rq : List (Nat × Oper × Value × Tr Value))
    (ts : Tr Value) (n : Nat) (h : Heap) (nx : Nat) : Option Rs :=
  match l, bs with
  | [], _ => some ⟨.normal, undefV, ts, h, nx⟩
  | o :: l, b :: bs => match wantedA ts all o with
    | false => goAny rec (.any all l bs (i + 1) nx0 act hs rq) (putA ts n o.dst undefV) n h nx
    | true => outAny P rec all l b bs i nx0 act hs rq ts o n h nx (evOpF P h (nx0 + i) ts o)
  | _, _ => none

def endCall (P : Program) (fn : Func) (r : Option Rs) : Option Rs :=
  match r with
  | none => none
  | some r => match r.e with
    | .exit _ => none
    | .goto _ => none
    | _ => match resA P r.h r.ts fn.results.toList with
      | none => none
      | some l => some ⟨.normal, oneV l, .lf, r.h, r.nx⟩

def enterS (P : Program) (rec : Rec) (fn : Func) (args : List Value) (h : Heap) (nx : Nat) : Option Rs :=
  match fn.body with
  | none => none
  | some c => endCall P fn (rec (.code c) (Tr.ofList args 0 .lf) (args.length + (fn.ntmps - args.length)) h nx)

abbrev Spec := Heap → Nat → FuncId → List Value → Option (Value × Heap × Nat)

def callS (P : Program) (sp : Spec) (rec : Rec) (f : FuncId) (args : List Value) (h : Heap) (nx : Nat) : Option Rs :=
  match sp h nx f args with
  | some r => some ⟨.normal, r.1, .lf, r.2.1, r.2.2⟩
  | none => match P.funcs[f]? with
    | none => none
    | some fn => enterS P rec fn args h nx

def stepS (P : Program) (sp : Spec) (rec : Rec) (t : Task) (ts : Tr Value) (n : Nat) (h : Heap) (nx : Nat) : Option Rs :=
  match t with
  | .code c => codeF c P rec ts n h nx
  | .scope b c => scopeS rec b n (rec (.code c) ts n h nx)
  | .ops all l => opsS P rec all l ts n h nx
  | .any all l bs i nx0 act hs rq => anyS P rec all l bs i nx0 act hs rq ts n h nx
  | .call f args => callS P sp rec f args h nx

def ev (P : Program) (sp : Spec) (k : Nat) : Rec :=
  Nat.rec (motive := fun _ => Rec) (fun _ _ _ _ _ => none) (fun _ rec => stepS P sp rec) k

end
end Ev
end Go.Proofs.YteohlibpfgmcaaaGreatDoor
