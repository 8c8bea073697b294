/- The evaluator's memory against the model's: relations. -/
import Derived.Test.YteohlibpfgmcaaaGreatDoorK0
namespace Go.Proofs.YteohlibpfgmcaaaGreatDoor
namespace Ev
open Go
set_option linter.unusedVariables false
set_option linter.unusedSimpArgs false

theorem bnd_some {α β : Type} {x : Option α} {f : α → Option β} {b : β} : bnd x f = some b ↔ ∃ a, x = some a ∧ f a = some b := by
  cases x <;> simp [bnd]

/-! ### Trees -/

theorem Tr.get_nd {α : Type} (l : Tr α) (v : Option α) (r : Tr α) (n : Nat) : (Tr.nd l v r).get n = Tr.getS v l.get r.get n := rfl
theorem Tr.get_lf {α : Type} (n : Nat) : (Tr.lf : Tr α).get n = none := rfl

theorem Tr.getS_zero {α : Type} (v : Option α) (l r : Nat → Option α) : Tr.getS v l r 0 = v := rfl
theorem Tr.getS_even {α : Type} (v : Option α) (l r : Nat → Option α) {n : Nat} (h : n % 2 = 0) : Tr.getS v l r (n + 1) = l (n / 2) := by
  show Bool.rec (motive := fun _ => Option α) (r (n / 2)) (l (n / 2)) (Nat.beq (n % 2) 0) = _
  rw [h]; rfl
theorem Tr.getS_odd {α : Type} (v : Option α) (l r : Nat → Option α) {n : Nat} (h : n % 2 = 1) : Tr.getS v l r (n + 1) = r (n / 2) := by
  show Bool.rec (motive := fun _ => Option α) (r (n / 2)) (l (n / 2)) (Nat.beq (n % 2) 0) = _
  rw [h]; rfl
theorem Tr.setS_zero {α : Type} (a : α) (rec : Tr α → Nat → Tr α) (l : Tr α) (v : Option α) (r : Tr α) : Tr.setS a rec l v r 0 = .nd l (some a) r := rfl
theorem Tr.setS_even {α : Type} (a : α) (rec : Tr α → Nat → Tr α) (l : Tr α) (v : Option α) (r : Tr α) {n : Nat} (h : n % 2 = 0) : Tr.setS a rec l v r (n + 1) = .nd (rec l (n / 2)) v r := by
  show Bool.rec (motive := fun _ => Tr α) (.nd l v (rec r (n / 2))) (.nd (rec l (n / 2)) v r) (Nat.beq (n % 2) 0) = _
  rw [h]; rfl
theorem Tr.setS_odd {α : Type} (a : α) (rec : Tr α → Nat → Tr α) (l : Tr α) (v : Option α) (r : Tr α) {n : Nat} (h : n % 2 = 1) : Tr.setS a rec l v r (n + 1) = .nd l v (rec r (n / 2)) := by
  show Bool.rec (motive := fun _ => Tr α) (.nd l v (rec r (n / 2))) (.nd (rec l (n / 2)) v r) (Nat.beq (n % 2) 0) = _
  rw [h]; rfl

theorem Tr.getS_lf {α : Type} (n : Nat) : Tr.getS (none : Option α) (fun _ => none) (fun _ => none) n = none := by
  cases n with
  | zero => rfl
  | succ n =>
    rcases Nat.mod_two_eq_zero_or_one n with e | e
    · rw [Tr.getS_even _ _ _ e]
    · rw [Tr.getS_odd _ _ _ e]

theorem Tr.get_setF {α : Type} (a : α) : ∀ (f : Nat) (t : Tr α) (n m : Nat), n < f → (Tr.setF a f t n).get m = if m = n then some a else t.get m := by
  intro f
  induction f with
  | zero => intro t n m h; omega
  | succ f ih =>
    intro t n m h
    have key : ∀ (l : Tr α) (v : Option α) (r : Tr α), (Tr.setS a (Tr.setF a f) l v r n).get m = if m = n then some a else (Tr.nd l v r).get m := by
      intro l v r
      cases n with
      | zero =>
        rw [Tr.setS_zero]
        cases m with
        | zero => simp [Tr.get_nd, Tr.getS_zero]
        | succ m =>
          rcases Nat.mod_two_eq_zero_or_one m with e' | e'
          · simp [Tr.get_nd, Tr.getS_even _ _ _ e']
          · simp [Tr.get_nd, Tr.getS_odd _ _ _ e']
      | succ n =>
        have hn : n / 2 < f := by omega
        rcases Nat.mod_two_eq_zero_or_one n with e | e
        · rw [Tr.setS_even _ _ _ _ _ e, Tr.get_nd, Tr.get_nd]
          cases m with
          | zero => simp [Tr.getS_zero]
          | succ m =>
            rcases Nat.mod_two_eq_zero_or_one m with e' | e'
            · rw [Tr.getS_even _ _ _ e', Tr.getS_even _ _ _ e', ih l (n / 2) (m / 2) hn]
              have : (m / 2 = n / 2) ↔ (m + 1 = n + 1) := by omega
              simp only [this]
            · rw [Tr.getS_odd _ _ _ e', Tr.getS_odd _ _ _ e', if_neg (show ¬ (m + 1 = n + 1) by omega)]
        · rw [Tr.setS_odd _ _ _ _ _ e, Tr.get_nd, Tr.get_nd]
          cases m with
          | zero => simp [Tr.getS_zero]
          | succ m =>
            rcases Nat.mod_two_eq_zero_or_one m with e' | e'
            · rw [Tr.getS_even _ _ _ e', Tr.getS_even _ _ _ e', if_neg (show ¬ (m + 1 = n + 1) by omega)]
            · rw [Tr.getS_odd _ _ _ e', Tr.getS_odd _ _ _ e', ih r (n / 2) (m / 2) hn]
              have : (m / 2 = n / 2) ↔ (m + 1 = n + 1) := by omega
              simp only [this]
    cases t with
    | nd l v r => exact key l v r
    | lf =>
      have := key .lf none .lf
      rw [Tr.get_nd, show (Tr.lf : Tr α).get = fun _ => none from rfl, Tr.getS_lf] at this
      exact this

theorem Tr.get_set {α : Type} (t : Tr α) (n m : Nat) (a : α) : (t.set n a).get m = if m = n then some a else t.get m :=
  Tr.get_setF a (n + 1) t n m (by omega)

theorem Tr.get_set_self {α : Type} (t : Tr α) (n : Nat) (a : α) : (t.set n a).get n = some a := by simp [Tr.get_set]
theorem Tr.get_set_ne {α : Type} (t : Tr α) {n m : Nat} (a : α) (h : m ≠ n) : (t.set n a).get m = t.get m := by simp [Tr.get_set, h]

theorem evens_get {α : Type} : ∀ (l : List α) (i : Nat), (evens l)[i]? = l[2 * i]?
  | [], i => by simp [evens]
  | [x], i => by
    cases i with
    | zero => rfl
    | succ i => simp [evens, show 2 * (i + 1) = 2 * i + 1 + 1 by omega]
  | x :: y :: l, i => by
    cases i with
    | zero => rfl
    | succ i => simp [evens, show 2 * (i + 1) = 2 * i + 1 + 1 by omega, evens_get l i]

theorem odds_get {α : Type} : ∀ (l : List α) (i : Nat), (odds l)[i]? = l[2 * i + 1]?
  | [], i => by simp [odds]
  | [x], i => by simp [odds]
  | x :: y :: l, i => by
    cases i with
    | zero => rfl
    | succ i => simp [odds, show 2 * (i + 1) + 1 = 2 * i + 1 + 1 + 1 by omega, odds_get l i]

theorem evens_len {α : Type} : ∀ l : List α, (evens l).length ≤ l.length
  | [] => by simp [evens]
  | [x] => by simp [evens]
  | x :: y :: l => by have := evens_len l; simp only [evens, List.length_cons]; omega

theorem odds_len {α : Type} : ∀ l : List α, (odds l).length ≤ l.length
  | [] => by simp [odds]
  | [x] => by simp [odds]
  | x :: y :: l => by have := odds_len l; simp only [odds, List.length_cons]; omega

theorem Tr.get_ofF {α : Type} : ∀ (f : Nat) (l : List α) (i : Nat), l.length < f → (Tr.ofF f l).get i = l[i]? := by
  intro f
  induction f with
  | zero => intro l i h; omega
  | succ f ih =>
    intro l i h
    cases l with
    | nil => simp [show Tr.ofF (f + 1) ([] : List α) = .lf from rfl, Tr.get_lf]
    | cons x l =>
      rw [show Tr.ofF (f + 1) (x :: l) = .nd (Tr.ofF f (evens l)) (some x) (Tr.ofF f (odds l)) from rfl, Tr.get_nd]
      simp only [List.length_cons] at h
      have h1 := evens_len l
      have h2 := odds_len l
      cases i with
      | zero => rfl
      | succ i =>
        rw [List.getElem?_cons_succ]
        rcases Nat.mod_two_eq_zero_or_one i with e | e
        · rw [Tr.getS_even _ _ _ e, ih _ _ (show (evens l).length < f by omega), evens_get]
          congr 1; omega
        · rw [Tr.getS_odd _ _ _ e, ih _ _ (show (odds l).length < f by omega), odds_get]
          congr 1; omega

theorem Tr.get_ofL {α : Type} (l : List α) (i : Nat) : (Tr.ofL l).get i = l[i]? := Tr.get_ofF _ l i (by omega)

/-! ### Values -/

/-- where a block lies: its number, how many cells it has, of how many cells a slice's element over it is -/
structure Pl where
  blk : Nat
  cap : Nat
  g : Nat
  ob : Option Obj

abbrev Ren := Nat → Option Pl

mutual
inductive VRel (ρ : Ren) : Value → Value → Prop
  | bool (b : Bool) : VRel ρ (.bool b) (.bool b)
  | int (k : IntKind) (n : Int) : VRel ρ (.int k n) (.int k n)
  | string (s : ByteArray) : VRel ρ (.string s) (.string s)
  | ptr0 : VRel ρ (.pointer none) (.pointer none)
  | ptr {b : Nat} {p : Pl} (o : Nat) (h : ρ b = some p) : VRel ρ (.pointer (some ⟨b, o, none⟩)) (.pointer (some ⟨p.blk, o, none⟩))
  | sl0 (l c : Nat) : VRel ρ (.slice none l c) (.slice none l c)
  | sl {b : Nat} {p : Pl} (o l : Nat) {c c' : Nat} (h : ρ b = some p) (hc : c = c' ∨ (c ≤ c' ∧ (o = 0 → c' * p.g ≤ p.cap))) :
      VRel ρ (.slice (some ⟨b, o, none⟩) l c) (.slice (some ⟨p.blk, o, none⟩) l c')
  | slx (a' : Addr) (c' : Nat) : VRel ρ (.slice (some lost) 0 0) (.slice (some a') 0 c')
  | map0 : VRel ρ (.map none) (.map none)
  | map {b : Nat} {p : Pl} (h : ρ b = some p) : VRel ρ (.map (some b)) (.map (some p.blk))
  | func (fn : Fn) {f f' c c' : List Value} (hf : LRel ρ f f') (hc : LRel ρ c c') : VRel ρ (.func fn ⟨f⟩ ⟨c⟩) (.func fn ⟨f'⟩ ⟨c'⟩)
  | nilFunc : VRel ρ .nilFunc .nilFunc
  | iface (t : TypeId) {v v' : Value} (h : VRel ρ v v') : VRel ρ (.iface t v) (.iface t v')
  | nilIface : VRel ρ .nilIface .nilIface
  | agg {l l' : List Value} (h : LRel ρ l l') : VRel ρ (.agg ⟨l⟩) (.agg ⟨l'⟩)
  | tuple {l l' : List Value} (h : LRel ρ l l') : VRel ρ (.tuple ⟨l⟩) (.tuple ⟨l'⟩)
inductive LRel (ρ : Ren) : List Value → List Value → Prop
  | nil : LRel ρ [] []
  | cons {v v' : Value} {l l' : List Value} (h : VRel ρ v v') (t : LRel ρ l l') : LRel ρ (v :: l) (v' :: l')
end

mutual
theorem VRel.mono {ρ ρ' : Ren} (hρ : ∀ b p, ρ b = some p → ρ' b = some p) : ∀ {v v' : Value}, VRel ρ v v' → VRel ρ' v v'
  | _, _, .bool b => .bool b
  | _, _, .int k n => .int k n
  | _, _, .string s => .string s
  | _, _, .ptr0 => .ptr0
  | _, _, .ptr o h => .ptr o (hρ _ _ h)
  | _, _, .sl0 l c => .sl0 l c
  | _, _, .sl o l h hc => .sl o l (hρ _ _ h) hc
  | _, _, .slx a' c' => .slx a' c'
  | _, _, .map0 => .map0
  | _, _, .map h => .map (hρ _ _ h)
  | _, _, .func fn hf hc => .func fn (LRel.mono hρ hf) (LRel.mono hρ hc)
  | _, _, .nilFunc => .nilFunc
  | _, _, .iface t h => .iface t (VRel.mono hρ h)
  | _, _, .nilIface => .nilIface
  | _, _, .agg h => .agg (LRel.mono hρ h)
  | _, _, .tuple h => .tuple (LRel.mono hρ h)
theorem LRel.mono {ρ ρ' : Ren} (hρ : ∀ b p, ρ b = some p → ρ' b = some p) : ∀ {l l' : List Value}, LRel ρ l l' → LRel ρ' l l'
  | _, _, .nil => .nil
  | _, _, .cons h t => .cons (VRel.mono hρ h) (LRel.mono hρ t)
end

variable {ρ : Ren}

theorem LRel.length {l l' : List Value} (h : LRel ρ l l') : l.length = l'.length := by
  induction l generalizing l' with
  | nil => cases h; rfl
  | cons v l ih => cases h with | cons h t => simp [ih t]

theorem LRel.get {l l' : List Value} (h : LRel ρ l l') : ∀ {i : Nat} {v : Value}, l[i]? = some v → ∃ v', l'[i]? = some v' ∧ VRel ρ v v' := by
  induction l generalizing l' with
  | nil => intro i v hv; simp at hv
  | cons x l ih =>
    intro i v hv
    cases h with
    | cons h t =>
      cases i with
      | zero => simp at hv; subst hv; exact ⟨_, rfl, h⟩
      | succ i => simp at hv; obtain ⟨v', e, r⟩ := ih t hv; exact ⟨v', by simpa using e, r⟩

theorem LRel.of_get {l l' : List Value} (hl : l.length = l'.length) (h : ∀ (i : Nat) v v', l[i]? = some v → l'[i]? = some v' → VRel ρ v v') : LRel ρ l l' := by
  induction l generalizing l' with
  | nil => cases l' with | nil => exact .nil | cons => simp at hl
  | cons x l ih =>
    cases l' with
    | nil => simp at hl
    | cons y l' =>
      refine .cons (h 0 x y rfl rfl) (ih (by simpa using hl) fun i v v' h1 h2 => h (i + 1) v v' (by simpa using h1) (by simpa using h2))

theorem LRel.append {a a' b b' : List Value} (h : LRel ρ a a') (h' : LRel ρ b b') : LRel ρ (a ++ b) (a' ++ b') := by
  induction a generalizing a' with
  | nil => cases h; exact h'
  | cons x a ih => cases h with | cons h t => exact .cons h (ih t)

theorem LRel.drop {a a' : List Value} (h : LRel ρ a a') : ∀ n, LRel ρ (a.drop n) (a'.drop n) := by
  induction a generalizing a' with
  | nil => cases h; intro n; simp; exact .nil
  | cons x a ih =>
    cases h with
    | cons h t =>
      intro n
      cases n with
      | zero => exact .cons h t
      | succ n => exact ih t n

theorem LRel.take {a a' : List Value} (h : LRel ρ a a') : ∀ n, LRel ρ (a.take n) (a'.take n) := by
  induction a generalizing a' with
  | nil => cases h; intro n; simp; exact .nil
  | cons x a ih =>
    cases h with
    | cons h t =>
      intro n
      cases n with
      | zero => exact .nil
      | succ n => exact .cons h (ih t n)

theorem LRel.set {a a' : List Value} {v v' : Value} (h : LRel ρ a a') (hv : VRel ρ v v') : ∀ n, LRel ρ (a.set n v) (a'.set n v') := by
  induction a generalizing a' with
  | nil => cases h; intro n; simp; exact .nil
  | cons x a ih =>
    cases h with
    | cons h t =>
      intro n
      cases n with
      | zero => exact .cons hv t
      | succ n => exact .cons h (ih t n)

theorem plainS_rel {v : Value} (h : plainS v = true) : VRel ρ v v := by
  unfold plainS at h
  split at h <;> first | contradiction | constructor

theorem plainL_rel : ∀ {l : List Value}, l.all plainS = true → LRel ρ l l
  | [], _ => .nil
  | v :: l, h => by
    simp only [List.all_cons, Bool.and_eq_true] at h
    exact .cons (plainS_rel h.1) (plainL_rel h.2)

theorem plainV_rel {v : Value} (h : plainV v = true) : VRel ρ v v := by
  unfold plainV at h
  split at h
  · simp only [Bool.and_eq_true, beq_iff_eq, Array.size_eq_zero_iff] at h
    rw [h.1, h.2]; exact .func _ .nil .nil
  · simp only [beq_iff_eq, Array.size_eq_zero_iff] at h
    rw [h]; exact .tuple .nil
  · exact .agg (plainL_rel h)
  · exact plainS_rel h

theorem undef_rel : VRel ρ undefV undef := .tuple .nil

/-- a value that is a plain one's mate is that one -/
theorem plainS_eq {v v' : Value} (h : plainS v = true) (r : VRel ρ v v') : v' = v := by
  cases r <;> first | rfl | (simp [plainS] at h)

/-! ### Objects -/

inductive ERel (ρ : Ren) : List MapEntry → List MapEntry → Prop
  | nil : ERel ρ [] []
  | cons {e e' : MapEntry} {l l' : List MapEntry} (hk : VRel ρ e.key e'.key) (hv : VRel ρ e.val e'.val) (hb : e.born = e'.born) (t : ERel ρ l l') : ERel ρ (e :: l) (e' :: l')

theorem ERel.mono {ρ ρ' : Ren} (hρ : ∀ b p, ρ b = some p → ρ' b = some p) {l l' : List MapEntry} (h : ERel ρ l l') : ERel ρ' l l' := by
  induction h with
  | nil => exact .nil
  | cons hk hv hb _ ih => exact .cons (hk.mono hρ) (hv.mono hρ) hb ih

/-- no cell of a block of so many is frozen; and (in a block that no string shares) not the place behind them -/
def Thawed (n g : Nat) (fz : Nat × Nat) : Prop := ∀ i, (i < n ∨ g = 0) → ¬ (fz.1 ≤ i ∧ i < fz.2)

def ORel (ρ : Ren) (p : Pl) (o : AObj) (co : Option Obj) : Prop :=
  match o with
  | .dead => True
  | .row n g z cs => ∃ c el fz, co = some (.cells c el fz) ∧ c.size = p.cap ∧ n ≤ p.cap ∧ g = p.g ∧ Thawed c.size g fz ∧
      ∀ i v, cellAt n z cs i = some v → ∃ v', c[i]? = some v' ∧ VRel ρ v v'
  | .map es cl => ∃ es', co = some (.map es' cl) ∧ ERel ρ es es'.toList
  | .iter m s sn st => False
  | .siter s pos => co = some (.stringIter s pos)
  | .rom n cs => co = p.ob ∧ ∃ c el fz, co = some (.cells c el fz) ∧ ∀ i v, cellAt n #[] cs i = some v → ∃ v', c[i]? = some v' ∧ VRel ρ v v'

theorem ORel.mono {ρ ρ' : Ren} (hρ : ∀ b p, ρ b = some p → ρ' b = some p) {p : Pl} {o : AObj} {co : Option Obj} (h : ORel ρ p o co) : ORel ρ' p o co := by
  cases o with
  | dead => trivial
  | row n g z cs =>
    obtain ⟨c, el, fz, h1, h2, h3, h4, h5, h6⟩ := h
    exact ⟨c, el, fz, h1, h2, h3, h4, h5, fun i v hv => let ⟨v', a, b⟩ := h6 i v hv; ⟨v', a, b.mono hρ⟩⟩
  | map es cl => obtain ⟨es', h1, h2⟩ := h; exact ⟨es', h1, h2.mono hρ⟩
  | iter => exact h
  | siter => exact h
  | rom n cs =>
    obtain ⟨h0, c, el, fz, h1, h2⟩ := h
    exact ⟨h0, c, el, fz, h1, fun i v hv => let ⟨v', a, b⟩ := h2 i v hv; ⟨v', a, b.mono hρ⟩⟩

/-- neither in the evaluator's memory nor ever to be so again, or not yet -/
def Away (h : Heap) (b : Nat) : Prop := h.get b = none ∨ h.get b = some .dead

structure Rel (P : Program) (ρ : Ren) (h : Heap) (w : World) : Prop where
  obj : ∀ b p o, ρ b = some p → h.get b = some o → ORel ρ p o (w.heap[p.blk]?)
  blk : ∀ b p, ρ b = some p → p.blk < w.heap.size
  inj : ∀ b b' p p', ρ b = some p → ρ b' = some p' → h.get b ≠ some .dead → h.get b' ≠ some .dead → p.blk = p'.blk → b = b'
  glb : ∀ g, g < GN → ∃ p, ρ g = some p ∧ p.blk = g

/-- what has come of memory, but for what the evaluator has laid ahead -/
structure ExtC (lo hi : Nat) (ρ : Ren) (h : Heap) (w : World) (ρ' : Ren) (h' : Heap) (w' : World) : Prop where
  ext : ∀ b p, ρ b = some p → ρ' b = some p
  new : ∀ b p, ρ b = none → ρ' b = some p → lo ≤ b ∧ b < hi
  rng : ∀ b p, ρ b = none → ρ' b = some p → w.heap.size ≤ p.blk ∨ ∃ b₀ p₀, ρ b₀ = some p₀ ∧ p₀.blk = p.blk ∧ ¬ Away h b₀
  size : w.heap.size ≤ w'.heap.size
  fr : ∀ c, c < w.heap.size → (∀ b p, ρ b = some p → p.blk = c → Away h b) → w'.heap[c]? = w.heap[c]?
  away : ∀ b p, ρ b = some p → h.get b = none → h'.get b = none
  dead : ∀ b, h.get b = some .dead → h'.get b = some .dead
  tape : w'.tape = w.tape
  os : w'.os = w.os
  output : w'.output = w.output

structure Ext (lo hi : Nat) (ρ : Ren) (h : Heap) (w : World) (ρ' : Ren) (h' : Heap) (w' : World) : Prop extends ExtC lo hi ρ h w ρ' h' w' where
  pend : ∀ b, ρ' b = none → h'.get b = h.get b

theorem Ext.refl (lo hi : Nat) (ρ : Ren) (h : Heap) (w : World) : Ext lo hi ρ h w ρ h w where
  ext := fun _ _ h => h
  new := fun b p h1 h2 => by rw [h1] at h2; cases h2
  rng := fun b p h1 h2 => by rw [h1] at h2; cases h2
  size := Nat.le_refl _
  fr := fun _ _ _ => rfl
  pend := fun _ _ => rfl
  away := fun _ _ _ h => h
  dead := fun _ h => h
  tape := rfl
  os := rfl
  output := rfl

theorem ExtC.away' {lo hi : Nat} {ρ ρ' : Ren} {h h' : Heap} {w w' : World} (e : ExtC lo hi ρ h w ρ' h' w') {b : Nat} {p : Pl} (hb : ρ b = some p) (ha : Away h b) : Away h' b := by
  rcases ha with ha | ha
  · exact .inl (e.away b p hb ha)
  · exact .inr (e.dead b ha)

theorem ExtC.trans {lo mid hi lo' : Nat} {ρ ρ' ρ'' : Ren} {h h' h'' : Heap} {w w' w'' : World} (e : ExtC lo mid ρ h w ρ' h' w') (f : ExtC lo' hi ρ' h' w' ρ'' h'' w'')
    (hl : lo ≤ lo') (hm : mid ≤ hi) : ExtC lo hi ρ h w ρ'' h'' w'' where
  ext := fun b p hb => f.ext b p (e.ext b p hb)
  new := fun b p h1 h2 => by
    cases hb : ρ' b with
    | none => obtain ⟨x, y⟩ := f.new b p hb h2; exact ⟨Nat.le_trans hl x, y⟩
    | some q => obtain ⟨x, y⟩ := e.new b q h1 hb; exact ⟨x, Nat.lt_of_lt_of_le y hm⟩
  rng := fun b p h1 h2 => by
    cases hb : ρ' b with
    | none =>
      rcases f.rng b p hb h2 with x | ⟨b₀, p₀, x1, x2, x3⟩
      · exact .inl (Nat.le_trans e.size x)
      · cases hb0 : ρ b₀ with
        | none =>
          rcases e.rng b₀ p₀ hb0 x1 with y | ⟨b₁, p₁, y1, y2, y3⟩
          · exact .inl (x2 ▸ y)
          · exact .inr ⟨b₁, p₁, y1, y2.trans x2, y3⟩
        | some q =>
          have := e.ext _ _ hb0
          rw [x1] at this; cases this
          exact .inr ⟨b₀, p₀, hb0, x2, fun hA => x3 (e.away' hb0 hA)⟩
    | some q =>
      have := f.ext _ _ hb
      rw [h2] at this; cases this
      exact e.rng b p h1 hb
  size := Nat.le_trans e.size f.size
  fr := fun c hc ha => by
    rw [f.fr c (Nat.lt_of_lt_of_le hc e.size) fun b p hb hpc => ?_, e.fr c hc ha]
    cases hb0 : ρ b with
    | some q =>
      have := e.ext _ _ hb0
      rw [hb] at this; cases this
      exact e.away' hb0 (ha b p hb0 hpc)
    | none =>
      rcases e.rng b p hb0 hb with y | ⟨b₁, p₁, y1, y2, y3⟩
      · omega
      · exact absurd (ha b₁ p₁ y1 (y2.trans hpc)) y3
  away := fun b p hb hn => f.away b p (e.ext b p hb) (e.away b p hb hn)
  dead := fun b hn => f.dead b (e.dead b hn)
  tape := f.tape.trans e.tape
  os := f.os.trans e.os
  output := f.output.trans e.output

theorem Ext.trans {lo mid hi lo' : Nat} {ρ ρ' ρ'' : Ren} {h h' h'' : Heap} {w w' w'' : World} (e : Ext lo mid ρ h w ρ' h' w') (f : Ext lo' hi ρ' h' w' ρ'' h'' w'')
    (hl : lo ≤ lo') (hm : mid ≤ hi) : Ext lo hi ρ h w ρ'' h'' w'' :=
  { e.toExtC.trans f.toExtC hl hm with
    pend := fun b hb => by
      have : ρ' b = none := by
        cases hb' : ρ' b with
        | none => rfl
        | some q => rw [f.ext _ _ hb'] at hb; cases hb
      rw [f.pend b hb, e.pend b this] }

theorem Ext.wide {lo hi lo' hi' : Nat} {ρ ρ' : Ren} {h h' : Heap} {w w' : World} (e : Ext lo hi ρ h w ρ' h' w') (hl : lo' ≤ lo) (hm : hi ≤ hi') : Ext lo' hi' ρ h w ρ' h' w' :=
  { e with new := fun b p h1 h2 => let ⟨x, y⟩ := e.new b p h1 h2; ⟨Nat.le_trans hl x, Nat.lt_of_lt_of_le y hm⟩ }

/-! ### Temporaries -/

structure TRel (ρ : Ren) (ts : Tr Value) (n : Nat) (a : Act) : Prop where
  size : a.tmps.size = n
  defers : a.defers = []
  get : ∀ t, VRel ρ ((ts.get t).getD undefV) (a.tmps.getD t undef)

theorem TRel.mono {ρ ρ' : Ren} (hρ : ∀ b p, ρ b = some p → ρ' b = some p) {ts : Tr Value} {n : Nat} {a : Act} (h : TRel ρ ts n a) : TRel ρ' ts n a :=
  ⟨h.size, h.defers, fun t => (h.get t).mono hρ⟩

theorem TRel.put {ts ts' : Tr Value} {n : Nat} {a : Act} {dst : Option Tmp} {v v' : Value} (h : TRel ρ ts n a) (hp : putA ts n dst v = some ts') (hv : VRel ρ v v') : TRel ρ ts' n (a.put dst v') := by
  cases dst with
  | none => simp [putA] at hp; subst hp; exact h
  | some d =>
    simp only [putA] at hp
    split at hp
    · rename_i hd
      have hd : d + 1 ≤ n := Nat.le_of_ble_eq_true hd
      cases hp
      refine ⟨by simp [Act.put, h.size], by simp [Act.put, h.defers], fun t => ?_⟩
      by_cases htd : t = d
      · subst htd
        have : t < a.tmps.size := by rw [h.size]; exact Nat.lt_of_succ_le hd
        simp [Tr.get_set_self, Act.put, this]
        exact hv
      · rw [Tr.get_set_ne _ _ htd]
        have := h.get t
        simpa [Act.put, Array.getElem?_setIfInBounds_ne (Ne.symm htd)] using this
    · cases hp

theorem opv_rel {P : Program} {ts : Tr Value} {n : Nat} {a : Act} {h : Heap} {w : World} (hr : Rel P ρ h w) (ht : TRel ρ ts n a) {x : Operand} {v : Value} (hv : opv P ts x = some v) : VRel ρ v (a.eval x) := by
  cases x with
  | tmp t =>
    have := ht.get t
    simp only [opv] at hv
    split at hv
    · rename_i u hu; cases hv; rw [hu] at this; exact this
    · rename_i hu; cases hv; rw [hu] at this; exact this
  | const c =>
    simp only [opv] at hv
    split at hv
    · rename_i hc; cases hv; exact plainV_rel hc
    · cases hv
  | global g =>
    simp only [opv] at hv
    split at hv
    · rename_i hg
      cases hv
      obtain ⟨p, hp, hb⟩ := hr.glb g (Nat.le_of_ble_eq_true hg)
      have := VRel.ptr (ρ := ρ) 0 hp
      rw [hb] at this
      exact this
    · cases hv
  | func f =>
    simp only [opv] at hv
    cases hv
    exact .func _ .nil .nil

end Ev
end Go.Proofs.YteohlibpfgmcaaaGreatDoor
