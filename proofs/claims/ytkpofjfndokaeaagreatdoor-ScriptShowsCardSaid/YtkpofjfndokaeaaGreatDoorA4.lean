/- A map that a call makes and fills with new keys; function values in cells. -/
import Derived.Test.YtkpofjfndokaeaaGreatDoorProg
import Derived.WalkKit
import Derived.Below
import Derived.Lib.Hide
import Derived.MapKept
import Derived.WideMake
import Derived.Laws.NewBlocks
import Derived.Maps.RangeRun
import Derived.RegionTactic
import Derived.Deep.LoopGhost
import Derived.Maps.RangeWalk
namespace Go.Proofs.YtkpofjfndokaeaaGreatDoor
open Go.RowKit
set_option linter.unusedVariables false
set_option linter.unusedSimpArgs false

theorem run_store_func {P : Program} {w : World} {a : Addr} (f : Fn) (x y : Array Value) (m : Mode) : (store a (.func f x y) m).run P w = stored P w a (.func f x y) m := run_store P w a _ m rfl
theorem run_store_nilFunc {P : Program} {w : World} {a : Addr} (m : Mode) : (store a .nilFunc m).run P w = stored P w a .nilFunc m := run_store P w a _ m rfl

/-- Block b turned. -/
def putObj (w : World) (b : Nat) (o : Obj) : World := { w with heap := w.heap.setIfInBounds b o }

theorem putObj_alloc_at {w : World} (o o' : Obj) (b : Nat) (hb : b = w.heap.size) : putObj (w.alloc o) b o' = w.alloc o' := by
  subst hb
  unfold putObj World.alloc
  congr 1
  apply Array.ext_getElem?
  intro k
  simp only [Array.getElem?_setIfInBounds, Array.getElem?_push, Array.size_push]
  by_cases hk : w.heap.size = k
  · subst hk; simp
  · simp [hk, Ne.symm hk]

theorem putObj_alloc_past {w : World} (o o' : Obj) (b : Nat) (hb : b < w.heap.size) : putObj (w.alloc o) b o' = (putObj w b o').alloc o := by
  unfold putObj World.alloc
  congr 1
  apply Array.ext_getElem?
  intro k
  simp only [Array.getElem?_setIfInBounds, Array.getElem?_push, Array.size_push, Array.size_setIfInBounds]
  by_cases hk : b = k
  · subst hk
    simp [hb, Nat.lt_succ_of_lt hb, Nat.ne_of_lt hb]
  · by_cases h2 : k = w.heap.size
    · subst h2; simp [hk]
    · simp [hk, h2]

theorem heap_alloc_at {w : World} (o : Obj) (b : Nat) (hb : b = w.heap.size) : (w.alloc o).heap[b]? = some o := by
  subst hb; show (w.heap.push o)[w.heap.size]? = _; simp
theorem heap_alloc_past {w : World} (o : Obj) (b : Nat) (hb : b < w.heap.size) : (w.alloc o).heap[b]? = w.heap[b]? := Below.heap_alloc w o b hb

theorem findNow_new (s : ByteArray) : ∀ (l : List MapEntry) (i : Nat), (∀ y ∈ l, ∃ q, y.key = .string q ∧ (s == q) = false) → Instr.findNow .string (.string s) l i = some none
  | [], _, _ => rfl
  | y :: l, i, h => by
    obtain ⟨q, hq, hne⟩ := h y (by simp)
    have ih := findNow_new s l (i + 1) (fun z hz => h z (by simp [hz]))
    unfold Instr.findNow
    rw [hq]
    simp [Instr.sameNow, hne, ih]

theorem run_mapUpdate_new {P : Program} (w : World) (mty kt et : TypeId) (r clock : Nat) (es : Array MapEntry) (s : ByteArray) (val : Value) (hm : P.underlying mty = some (.map kt et)) (hk : P.underlying kt = some .string)
    (hb : w.heap[r]? = some (.map es clock)) (hnew : ∀ y ∈ es.toList, ∃ q, y.key = .string q ∧ (s == q) = false) :
    (Instr.mapUpdate mty (.map (some r)) (.string s) val).run P w = .ok () (putObj w r (.map (es.push { key := .string s, val := val, born := clock }) (clock + 1))) := by
  have hf := findNow_new s es.toList 0 hnew
  have hc : (Instr.checkKey false 10000 kt (.string s)).run P w = .ok () w := MapKept.run_checkKey (k := .string s) hk (by simp [MapKept.IsKey]) false 9999
  simp [Instr.mapUpdate, run_underlying hm, MapKept.run_getObj_map hb, hc, MapKept.run_findKey hk hf, MapKept.run_setObj_map _ hb, Result.andThen]
  rfl

theorem wpList_insert_new {P : Program} (w : World) {ops : Array Oper} {rest : List Oper} {o : Oper} {a : Act} {Q : Exit → Act → World → Prop}
    (hg : o.guard = none) (m x v : Operand) (t : TypeId) (hop : o.op = Op.insert t m x v)
    (k e : TypeId) (ht : P.underlying t = some (.map k e)) (hk : P.underlying k = some .string) (b clock : Nat) (es : Array MapEntry) (s : ByteArray) (val : Value)
    (hm : a.eval m = .map (some b)) (hx : a.eval x = .string s) (hv : a.eval v = val) (hb : w.heap[b]? = some (.map es clock))
    (hnew : ∀ y ∈ es.toList, ∃ q, y.key = .string q ∧ (s == q) = false)
    (hK : wpList P ops Q rest (a.put o.dst undef) (putObj w b (.map (es.push { key := .string s, val := val, born := clock }) (clock + 1)))) :
    wpList P ops Q (o :: rest) a w := by
  refine wpList_plain hg fun K' hK' => ?_
  have hrun := run_mapUpdate_new (P := P) w t k e b clock es s val ht hk hb hnew
  unfold Oper.wp
  simp [execOp, hop, hm, hx, hv, hrun, Result.andThen]
  exact hK' _ _ hK

/-- The entries of the map in block b; its clock; is it one? -/
def esAt (w : World) (b : Nat) : Array MapEntry := match w.heap[b]? with | some (.map es _) => es | _ => #[]
def clkAt (w : World) (b : Nat) : Nat := match w.heap[b]? with | some (.map _ c) => c | _ => 0
def mapAt (w : World) (b : Nat) : Bool := match w.heap[b]? with | some (.map _ _) => true | _ => false
def freshB (es : Array MapEntry) (s : ByteArray) : Bool := es.toList.all fun y => match y.key with | .string q => !(s == q) | _ => false
theorem esAt_at {w : World} (es : Array MapEntry) (c b : Nat) (hb : b = w.heap.size) : esAt (w.alloc (.map es c)) b = es := by unfold esAt; rw [heap_alloc_at _ _ hb]
theorem clkAt_at {w : World} (es : Array MapEntry) (c b : Nat) (hb : b = w.heap.size) : clkAt (w.alloc (.map es c)) b = c := by unfold clkAt; rw [heap_alloc_at _ _ hb]
theorem mapAt_at {w : World} (es : Array MapEntry) (c b : Nat) (hb : b = w.heap.size) : mapAt (w.alloc (.map es c)) b = true := by unfold mapAt; rw [heap_alloc_at _ _ hb]
theorem esAt_past {w : World} (o : Obj) (b : Nat) (hb : b < w.heap.size) : esAt (w.alloc o) b = esAt w b := by unfold esAt; rw [heap_alloc_past _ _ hb]
theorem clkAt_past {w : World} (o : Obj) (b : Nat) (hb : b < w.heap.size) : clkAt (w.alloc o) b = clkAt w b := by unfold clkAt; rw [heap_alloc_past _ _ hb]
theorem mapAt_past {w : World} (o : Obj) (b : Nat) (hb : b < w.heap.size) : mapAt (w.alloc o) b = mapAt w b := by unfold mapAt; rw [heap_alloc_past _ _ hb]

theorem wpList_insert_lit {P : Program} (w : World) {ops : Array Oper} {rest : List Oper} {o : Oper} {a : Act} {Q : Exit → Act → World → Prop}
    (hg : o.guard = none) (m x v : Operand) (t : TypeId) (hop : o.op = Op.insert t m x v)
    (k e : TypeId) (ht : P.underlying t = some (.map k e)) (hk : P.underlying k = some .string) (b : Nat) (s : ByteArray) (val : Value)
    (hm : a.eval m = .map (some b)) (hx : a.eval x = .string s) (hv : a.eval v = val) (hb : mapAt w b = true)
    (hnew : freshB (esAt w b) s = true)
    (hK : wpList P ops Q rest (a.put o.dst undef) (putObj w b (.map ((esAt w b).push { key := .string s, val := val, born := clkAt w b }) (clkAt w b + 1)))) :
    wpList P ops Q (o :: rest) a w := by
  have hb' : w.heap[b]? = some (.map (esAt w b) (clkAt w b)) := by
    unfold mapAt at hb
    unfold esAt clkAt
    split at hb
    · rename_i h; rw [h]
    · cases hb
  refine wpList_insert_new w hg m x v t hop k e ht hk b (clkAt w b) (esAt w b) s val hm hx hv hb' (fun y hy => ?_) hK
  unfold freshB at hnew
  have h1 := List.all_eq_true.1 hnew y hy
  split at h1
  · rename_i q hq
    exact ⟨q, hq, by simpa using h1⟩
  · cases h1
end Go.Proofs.YtkpofjfndokaeaaGreatDoor

/- script.forms: the map of all calls by their names, as it lies in memory. -/
namespace Go.Proofs.YtkpofjfndokaeaaGreatDoor
open Go.RowKit
set_option linter.unusedVariables false
set_option linter.unusedSimpArgs false

/-- What stands behind a call's name. -/
inductive Fd | mode | key | high | val | draw | n
  deriving DecidableEq
def Fd.txt : Fd → Value
  | .key => .func (.func 64) #[] #[] | .high => .func (.func 65) #[] #[] | .val => .func (.func 66) #[] #[] | _ => .nilFunc
def Fd.num : Fd → Value
  | .mode => .func (.func 67) #[] #[] | .draw => .func (.func 68) #[] #[] | .n => .func (.func 69) #[] #[] | _ => .nilFunc
def flds : Nat → List Fd
  | 1 => [.mode] | 2 => [.key] | 3 => [.key, .high] | 4 => [.key, .val, .draw] | 5 => [.key, .val] | 6 => [.key] | 10 => [.n] | _ => []
def nameOf : Nat → ByteArray
  | 1 => ⟨#[98, 101, 103, 105, 110]⟩ | 2 => ⟨#[103, 101, 116]⟩ | 3 => ⟨#[115, 99, 97, 110]⟩ | 4 => ⟨#[105, 110, 115, 101, 114, 116]⟩ | 5 => ⟨#[117, 112, 100, 97, 116, 101]⟩
  | 6 => ⟨#[100, 101, 108, 101, 116, 101]⟩ | 7 => ⟨#[99, 111, 109, 109, 105, 116]⟩ | 8 => ⟨#[97, 98, 111, 114, 116]⟩ | 9 => ⟨#[99, 104, 101, 99, 107, 112, 111, 105, 110, 116]⟩
  | 10 => ⟨#[109, 101, 114, 103, 101]⟩ | 11 => ⟨#[115, 119, 101, 101, 112]⟩ | _ => ⟨#[]⟩
/-- Where the fields of a kind lie (the blocks behind n + 7). -/
def slOf (n : Nat) : Nat → Value
  | 1 => .slice (some ⟨n + 7, 0, none⟩) 1 1 | 2 => .slice (some ⟨n + 8, 0, none⟩) 1 1 | 3 => .slice (some ⟨n + 9, 0, none⟩) 2 2 | 4 => .slice (some ⟨n + 10, 0, none⟩) 3 3
  | 5 => .slice (some ⟨n + 11, 0, none⟩) 2 2 | 6 => .slice (some ⟨n + 12, 0, none⟩) 1 1 | 10 => .slice (some ⟨n + 13, 0, none⟩) 1 1 | _ => .slice none 0 0
def entryOf (n i : Nat) : MapEntry := { key := .string (nameOf (i + 1)), val := .agg #[.int .i64 ((i + 1 : Nat) : Int), slOf n (i + 1)], born := i }
def formsE (n : Nat) : Array MapEntry := #[entryOf n 0, entryOf n 1, entryOf n 2, entryOf n 3, entryOf n 4, entryOf n 5, entryOf n 6, entryOf n 7, entryOf n 8, entryOf n 9, entryOf n 10]
def fcells (fs : List Fd) : Array Value := (fs.flatMap fun f => [f.txt, f.num]).toArray

def formsW (W : World) : World :=
  (((((((((((((W.alloc (.cells (fcells [.key]) 74)).alloc (.cells (fcells [.high]) 74)).alloc (.cells (fcells [.val]) 74)).alloc (.cells (fcells [.mode]) 74)).alloc (.cells (fcells [.draw]) 74)).alloc (.cells (fcells [.n]) 74)).alloc
    (.map (formsE W.heap.size) 11)).alloc (.cells (fcells (flds 1)) 74)).alloc (.cells (fcells (flds 2)) 74)).alloc (.cells (fcells (flds 3)) 74)).alloc (.cells (fcells (flds 4)) 74)).alloc (.cells (fcells (flds 5)) 74)).alloc (.cells (fcells (flds 6)) 74)).alloc (.cells (fcells (flds 10)) 74)

theorem run_makeMap93 (w : World) : Sem.run Tryz.prog (Instr.makeMap 93 none) w = .ok (.map (some w.heap.size)) (w.alloc (.map #[] 0)) := run_makeMap_plain w 93
attribute [local go_sem] run_store_func run_store_nilFunc putObj_alloc_at putObj_alloc_past esAt_at clkAt_at mapAt_at esAt_past clkAt_past mapAt_past run_makeMap93
set_option maxRecDepth 100000 in
set_option maxHeartbeats 8000000 in
theorem forms_walk (W : World) : Calls Tryz.prog 49 #[] W fun e w' => e = .returned (.map (some (W.heap.size + 6))) ∧ w' = formsW W := by
  go_enter Tryz.func49, Tryz.ntmps49
  go_wp2_with (first | (refine wpList_insert_lit _ rfl _ _ _ 93 rfl 9 68 Tryz.underlying93 Tryz.underlying9 (W.heap.size + 6) _ _ rfl rfl rfl (by go_simp) (by go_simp; kernel_rfl) ?_))
  go_ret
  exact ⟨rfl, rfl⟩

end Go.Proofs.YtkpofjfndokaeaaGreatDoor

/- script.forms: what it leaves. -/
namespace Go.Proofs.YtkpofjfndokaeaaGreatDoor
open Go.RowKit
set_option linter.unusedVariables false
set_option linter.unusedSimpArgs false

/-- A slice of fields, as it lies there. -/
def FRow (w : World) (base : Nat) (v : Value) (fs : List Fd) : Prop :=
  ∃ A, v = .slice A fs.length fs.length ∧ ∀ j f, fs[j]? = some f → ∃ b, A = some ⟨b, 0, none⟩ ∧ base ≤ b ∧ b < w.heap.size ∧ w.cell? ⟨b, j * 2, none⟩ = some f.txt ∧ w.cell? ⟨b, j * 2 + 1, none⟩ = some f.num

theorem FRow.later {base n : Nat} {w w' : World} {v : Value} {fs : List Fd} (h : FRow w base v fs) (hb : Below n w w') (hn : w.heap.size ≤ n) : FRow w' base v fs := by
  obtain ⟨A, hv, hr⟩ := h
  refine ⟨A, hv, fun j f hj => ?_⟩
  obtain ⟨b, hA, h1, h2, h3, h4⟩ := hr j f hj
  have e := hb.block b (by omega)
  exact ⟨b, hA, h1, Nat.lt_of_lt_of_le h2 hb.size, by rw [World.cell?_of_block (a := ⟨b, j * 2, none⟩) e]; exact h3, by rw [World.cell?_of_block (a := ⟨b, j * 2 + 1, none⟩) e]; exact h4⟩

theorem frow_mk {w : World} {base b : Nat} {fs : List Fd} (h : w.heap[b]? = some (.cells (fcells fs) 74 (0, 0))) (hb : base ≤ b) : FRow w base (.slice (some ⟨b, 0, none⟩) fs.length fs.length) fs := by
  have key : ∀ (fs : List Fd) j f, fs[j]? = some f → (fcells fs)[j * 2]? = some f.txt ∧ (fcells fs)[j * 2 + 1]? = some f.num := by
    intro fs
    induction fs with
    | nil => intro j f hj; simp at hj
    | cons x l ih =>
      intro j f hj
      cases j with
      | zero => simp at hj; subst hj; exact ⟨by simp [fcells], by simp [fcells]⟩
      | succ j =>
        have := ih j f (by simpa using hj)
        simp only [fcells, List.getElem?_toArray] at this ⊢
        rw [List.flatMap_cons, show (j + 1) * 2 = (j * 2) + 2 by omega]
        exact ⟨by simpa using this.1, by simpa using this.2⟩
  refine ⟨_, rfl, fun j f hj => ⟨b, rfl, hb, (Array.getElem?_eq_some_iff.1 h).1, ?_, ?_⟩⟩
  · simp only [World.cell?, h]; exact (key fs j f hj).1
  · simp only [World.cell?, h]; exact (key fs j f hj).2
theorem frow_nil (w : World) (base : Nat) : FRow w base (.slice none 0 0) [] := ⟨none, rfl, fun j f hj => by simp at hj⟩

/-- What lies there behind a call of forms. -/
structure Forms (W w : World) (base b : Nat) : Prop where
  below : Below W.heap.size W w
  map : w.heap[b]? = some (.map (formsE base) 11)
  rows : ∀ k, k ≤ 11 → FRow w base (slOf base k) (flds k)
  lt : W.heap.size ≤ b
  eq : base = W.heap.size

theorem formsW_ok (W : World) : Forms W (formsW W) W.heap.size (W.heap.size + 6) := by
  unfold formsW
  refine ⟨?_, ?_, fun k hk => ?_, by omega, rfl⟩
  · repeat (first | exact Below.refl _ _ | refine Below.alloc ?_ (by (try simp only [World.size_alloc]); omega) _)
  · simp only [heap_alloc_at, heap_alloc_past, World.size_alloc, Nat.lt_irrefl, show ∀ a b c : Nat, a + b + c = a + (b + c) from fun a b c => Nat.add_assoc a b c, Nat.add_lt_add_iff_left, Nat.reduceAdd, Nat.reduceLT]
  · have hk2 : k = 0 ∨ k = 1 ∨ k = 2 ∨ k = 3 ∨ k = 4 ∨ k = 5 ∨ k = 6 ∨ k = 7 ∨ k = 8 ∨ k = 9 ∨ k = 10 ∨ k = 11 := by omega
    rcases hk2 with rfl | rfl | rfl | rfl | rfl | rfl | rfl | rfl | rfl | rfl | rfl | rfl
    · exact frow_nil _ _
    · exact frow_mk (fs := flds 1) (b := W.heap.size + 7) (by simp only [heap_alloc_at, heap_alloc_past, World.size_alloc, show ∀ a b c : Nat, a + b + c = a + (b + c) from fun a b c => Nat.add_assoc a b c, Nat.add_lt_add_iff_left, Nat.reduceAdd, Nat.reduceLT]) (by omega)
    · exact frow_mk (fs := flds 2) (b := W.heap.size + 8) (by simp only [heap_alloc_at, heap_alloc_past, World.size_alloc, show ∀ a b c : Nat, a + b + c = a + (b + c) from fun a b c => Nat.add_assoc a b c, Nat.add_lt_add_iff_left, Nat.reduceAdd, Nat.reduceLT]) (by omega)
    · exact frow_mk (fs := flds 3) (b := W.heap.size + 9) (by simp only [heap_alloc_at, heap_alloc_past, World.size_alloc, show ∀ a b c : Nat, a + b + c = a + (b + c) from fun a b c => Nat.add_assoc a b c, Nat.add_lt_add_iff_left, Nat.reduceAdd, Nat.reduceLT]) (by omega)
    · exact frow_mk (fs := flds 4) (b := W.heap.size + 10) (by simp only [heap_alloc_at, heap_alloc_past, World.size_alloc, show ∀ a b c : Nat, a + b + c = a + (b + c) from fun a b c => Nat.add_assoc a b c, Nat.add_lt_add_iff_left, Nat.reduceAdd, Nat.reduceLT]) (by omega)
    · exact frow_mk (fs := flds 5) (b := W.heap.size + 11) (by simp only [heap_alloc_at, heap_alloc_past, World.size_alloc, show ∀ a b c : Nat, a + b + c = a + (b + c) from fun a b c => Nat.add_assoc a b c, Nat.add_lt_add_iff_left, Nat.reduceAdd, Nat.reduceLT]) (by omega)
    · exact frow_mk (fs := flds 6) (b := W.heap.size + 12) (by simp only [heap_alloc_at, heap_alloc_past, World.size_alloc, show ∀ a b c : Nat, a + b + c = a + (b + c) from fun a b c => Nat.add_assoc a b c, Nat.add_lt_add_iff_left, Nat.reduceAdd, Nat.reduceLT]) (by omega)
    · exact frow_nil _ _
    · exact frow_nil _ _
    · exact frow_nil _ _
    · exact frow_mk (fs := flds 10) (b := W.heap.size + 13) (by simp only [heap_alloc_at, heap_alloc_past, World.size_alloc, show ∀ a b c : Nat, a + b + c = a + (b + c) from fun a b c => Nat.add_assoc a b c, Nat.add_lt_add_iff_left, Nat.reduceAdd, Nat.reduceLT]) (by omega)
    · exact frow_nil _ _

theorem forms_any (W : World) : Calls Tryz.prog 49 #[] W fun e w' => e = .returned (.map (some (W.heap.size + 6))) ∧ Forms W w' W.heap.size (W.heap.size + 6) :=
  (forms_walk W).mono fun e w' ⟨he, hw⟩ => ⟨he, hw ▸ formsW_ok W⟩
end Go.Proofs.YtkpofjfndokaeaaGreatDoor

/- script.formOf: a call's form by its kind, whatever order the map is gone through in. -/
namespace Go.Proofs.YtkpofjfndokaeaaGreatDoor
open Go.RowKit
open Go.ChangeMaps (setBlock)
set_option linter.unusedVariables false
set_option linter.unusedSimpArgs false

/-- The iterator over forms' map in block r, with what it has handed out. -/
structure Goes (W w : World) (base b r : Nat) (seen : Array Nat) : Prop where
  forms : Forms W w base b
  iter : w.heap[r]? = some (.mapIter (some b) 11 seen 11)
  ne : r ≠ b
  lo : W.heap.size ≤ r
  frees : ∀ k, k ≤ 11 → ∀ x, slOf base k = .slice (some x) (flds k).length (flds k).length → x.block ≠ r

theorem slOf_block {base k : Nat} {x : Addr} {n m : Nat} (h : slOf base k = .slice (some x) n m) : base + 7 ≤ x.block ∧ x.block ≤ base + 13 := by
  unfold slOf at h
  split at h <;> first | (injection h with h1 _ _; injection h1 with h1; subst h1; exact ⟨by simp, by simp⟩) | (injection h with h1 _ _; cases h1)

theorem formsE_mem {n : Nat} {e : MapEntry} (h : e ∈ (formsE n).toList) : ∃ i, i < 11 ∧ e = entryOf n i := by
  simp only [formsE, List.mem_cons, List.not_mem_nil, or_false] at h
  rcases h with rfl | rfl | rfl | rfl | rfl | rfl | rfl | rfl | rfl | rfl | rfl
  · exact ⟨0, by decide, rfl⟩
  · exact ⟨1, by decide, rfl⟩
  · exact ⟨2, by decide, rfl⟩
  · exact ⟨3, by decide, rfl⟩
  · exact ⟨4, by decide, rfl⟩
  · exact ⟨5, by decide, rfl⟩
  · exact ⟨6, by decide, rfl⟩
  · exact ⟨7, by decide, rfl⟩
  · exact ⟨8, by decide, rfl⟩
  · exact ⟨9, by decide, rfl⟩
  · exact ⟨10, by decide, rfl⟩
theorem formsE_of {n i : Nat} (h : i < 11) : entryOf n i ∈ (formsE n).toList := by
  have : i = 0 ∨ i = 1 ∨ i = 2 ∨ i = 3 ∨ i = 4 ∨ i = 5 ∨ i = 6 ∨ i = 7 ∨ i = 8 ∨ i = 9 ∨ i = 10 := by omega
  simp only [formsE]
  rcases this with rfl | rfl | rfl | rfl | rfl | rfl | rfl | rfl | rfl | rfl | rfl <;> simp
theorem formsE_born (n : Nat) : (formsE n).toList.map (·.born) = [0, 1, 2, 3, 4, 5, 6, 7, 8, 9, 10] := rfl

/-- How many are still to come. -/
def toCome (seen : Array Nat) : Nat := (leftOf (formsE 0) seen).size
theorem toCome_eq (n : Nat) (seen : Array Nat) : (leftOf (formsE n) seen).size = toCome seen := by
  unfold toCome leftOf
  have h : ∀ (l l' : List MapEntry), l.map (·.born) = l'.map (·.born) → (l.filter fun e => !seen.contains e.born).length = (l'.filter fun e => !seen.contains e.born).length := by
    intro l
    induction l with
    | nil => intro l' h; cases l' with | nil => rfl | cons _ _ => simp at h
    | cons x l ih =>
      intro l' h
      cases l' with
      | nil => simp at h
      | cons y l' =>
        simp only [List.map_cons, List.cons.injEq] at h
        simp only [List.filter_cons, h.1]
        split
        · rw [List.length_cons, List.length_cons, ih l' h.2]
        · exact ih l' h.2
  have e1 : ∀ es : Array MapEntry, (es.filter fun e => !seen.contains e.born).size = (es.toList.filter fun e => !seen.contains e.born).length := fun es => by rw [← Array.toList_filter, Array.length_toList]
  rw [e1, e1]
  exact h _ _ (by rw [formsE_born, formsE_born])

theorem Below.setBlock_drew {n r : Nat} {W w w1 : World} (h : Below n W w) (hw : w1 = w ∨ w1 = w.drew) (o : Obj) (hr : n ≤ r) : Below n W (setBlock w1 r o) := by
  have hk : ∀ X : World, Below n W X → Below n W (setBlock X r o) := fun X hX =>
    ⟨hX.os, hX.tape, hX.output, by show _ ≤ (X.heap.setIfInBounds r o).size; rw [Array.size_setIfInBounds]; exact hX.size, fun k hk => by
      show (X.heap.setIfInBounds r o)[k]? = _
      rw [Array.getElem?_setIfInBounds_ne (by omega)]; exact hX.block k hk⟩
  rcases hw with rfl | rfl
  · exact hk _ h
  · exact hk _ h.drew

theorem Goes.turn {W w w1 : World} {base b r : Nat} {seen : Array Nat} (h : Goes W w base b r seen) (hw : w1 = w ∨ w1 = w.drew) (i : Nat) :
    Goes W (setBlock w1 r (.mapIter (some b) 11 (seen.push i) 11)) base b r (seen.push i) := by
  have hh : w1.heap = w.heap := by rcases hw with rfl | rfl <;> rfl
  have hlt : r < w.heap.size := (Array.getElem?_eq_some_iff.1 h.iter).1
  have hne : ∀ k, k ≠ r → (setBlock w1 r (.mapIter (some b) 11 (seen.push i) 11)).heap[k]? = w.heap[k]? := fun k hk => by
    show (w1.heap.setIfInBounds r _)[k]? = _
    rw [Array.getElem?_setIfInBounds_ne (Ne.symm hk), hh]
  refine ⟨⟨Below.setBlock_drew h.forms.below hw _ h.lo, by rw [hne _ (Ne.symm h.ne)]; exact h.forms.map, fun k hk => ?_, h.forms.lt, h.forms.eq⟩, ?_, h.ne, h.lo, h.frees⟩
  · obtain ⟨A, hv, hr⟩ := h.forms.rows k hk
    refine ⟨A, hv, fun j f hj => ?_⟩
    obtain ⟨b', hA, h1, h2, h3, h4⟩ := hr j f hj
    subst hA
    have hb' : b' ≠ r := h.frees k hk _ hv
    have e := hne b' hb'
    exact ⟨b', rfl, h1, by show b' < (w1.heap.setIfInBounds r _).size; rw [Array.size_setIfInBounds, hh]; exact h2, by rw [World.cell?_of_block (a := ⟨b', j * 2, none⟩) e]; exact h3, by rw [World.cell?_of_block (a := ⟨b', j * 2 + 1, none⟩) e]; exact h4⟩
  · show (w1.heap.setIfInBounds r _)[r]? = _
    rw [hh, Array.getElem?_setIfInBounds_self_of_lt hlt]

theorem Goes.go {W w w' : World} {base b r n : Nat} {seen : Array Nat} (h : Goes W w base b r seen) (hb : Below n w w') (hn : w.heap.size ≤ n) : Goes W w' base b r seen :=
  ⟨⟨h.forms.below.trans (hb.mono (Nat.le_trans h.forms.below.size hn)), (hb.block b (Nat.lt_of_lt_of_le (Array.getElem?_eq_some_iff.1 h.forms.map).1 hn)).trans h.forms.map, fun k hk => (h.forms.rows k hk).later hb hn, h.forms.lt, h.forms.eq⟩,
    (hb.block r (Nat.lt_of_lt_of_le (Array.getElem?_eq_some_iff.1 h.iter).1 hn)).trans h.iter, h.ne, h.lo, h.frees⟩

theorem wpList_next_forms {P : Program} (w : World) {ops : Array Oper} {rest : List Oper} {o : Oper} {a : Act} {Q : Exit → Act → World → Prop}
    (hg : o.guard = none) (it : Operand) (hop : o.op = Op.next it false) (W : World) (base b r : Nat) (seen : Array Nat) (hit : a.eval it = .pointer (some ⟨r, 0, none⟩)) (h : Goes W w base b r seen)
    (hDone : (∀ i, i < 11 → seen.contains i = true) → wpList P ops Q rest (a.put o.dst (.tuple #[.bool false])) w)
    (hMore : ∀ (i : Nat) (w' : World), i < 11 → toCome (seen.push i) < toCome seen → Goes W w' base b r (seen.push i) →
      (Instr.entry (.pointer (some ⟨r, 0, none⟩))).run P w' = .ok (.tuple #[.string (nameOf (i + 1)), .agg #[.int .i64 ((i + 1 : Nat) : Int), slOf base (i + 1)]]) w' →
      wpList P ops Q rest (a.put o.dst (.tuple #[.bool true, .string (nameOf (i + 1)), .agg #[.int .i64 ((i + 1 : Nat) : Int), slOf base (i + 1)]])) w') :
    wpList P ops Q (o :: rest) a w := by
  refine wpList_plain hg fun K' hK' => ?_
  unfold Oper.wp
  rcases run_next_at (P := P) w o.type r b 11 11 seen (formsE base) 11 h.iter h.forms.map (fun x hx => by obtain ⟨i, hi, rfl⟩ := formsE_mem hx; exact hi) (Nat.le_refl _) with ⟨h0, hrun⟩ | ⟨e, he, w1, hw1, hrun⟩
  · simp [execOp, hop, hit, hrun, Result.andThen]
    refine hK' _ _ (hDone fun i hi => ?_)
    exact all_seen _ _ h0 (entryOf base i) (formsE_of hi)
  · obtain ⟨hm, hns⟩ := mem_left he
    obtain ⟨i, hi, rfl⟩ := formsE_mem hm
    have hg2 := h.turn hw1 i
    have hlt := left_shrinks (formsE base) seen (entryOf base i) he
    have hen := run_entry_at (P := P) _ r b 11 seen (formsE base) 11 (entryOf base i) hg2.iter hg2.forms.map hm (by rw [formsE_born]; decide)
    rw [toCome_eq, toCome_eq] at hlt
    simp [execOp, hop, hit, hrun, Result.andThen]
    exact hK' _ _ (hMore i _ hi hlt hg2 hen)

theorem Forms.begins {W w : World} {base b : Nat} (h : Forms W w base b) : Goes W (w.alloc (.mapIter (some b) 11 #[] 11)) base b w.heap.size #[] := by
  have hb := (Below.refl w.heap.size w).alloc (Nat.le_refl _) (.mapIter (some b) 11 #[] 11)
  have hlt := (Array.getElem?_eq_some_iff.1 h.map).1
  refine ⟨⟨h.below.trans (hb.mono h.below.size), (hb.block b hlt).trans h.map, fun k hk => (h.rows k hk).later hb (Nat.le_refl _), h.lt, h.eq⟩, heap_alloc_at _ _ rfl, by omega, h.below.size, fun k hk x hx => ?_⟩
  intro hbx
  by_cases hz : (flds k).length = 0
  · rw [hz] at hx
    unfold slOf at hx
    split at hx <;> first | (exact absurd (by injection hx) (by decide)) | (injection hx with h1; cases h1)
  · obtain ⟨A, hv, hr⟩ := h.rows k hk
    rw [hx] at hv
    injection hv with h1 _ _
    have hj : 0 < (flds k).length := by omega
    obtain ⟨b', hA, _, h2, _⟩ := hr 0 _ (List.getElem?_eq_getElem hj)
    rw [hA] at h1
    injection h1 with h1
    subst h1
    simp only at hbx
    omega
end Go.Proofs.YtkpofjfndokaeaaGreatDoor

/- script.formOf: the walk. -/
namespace Go.Proofs.YtkpofjfndokaeaaGreatDoor
open Go.RowKit
set_option linter.unusedVariables false
set_option linter.unusedSimpArgs false

/-- A kind that has a form. -/
def kindOk (k : Int) : Prop := 1 ≤ k ∧ k ≤ 11
def FormPost (k : Int) (W : World) (e : Ending) (w' : World) : Prop :=
  Below W.heap.size W w' ∧ ((∃ i s, i < 11 ∧ k = ((i + 1 : Nat) : Int) ∧ e = .returned (.tuple #[.string (nameOf (i + 1)), .agg #[.int .i64 ((i + 1 : Nat) : Int), s]]) ∧ FRow w' W.heap.size s (flds (i + 1))) ∨
    (¬ kindOk k ∧ e = .returned (.tuple #[.string ⟨#[]⟩, .agg #[.int .i64 0, .slice none 0 0]])))

theorem results_tmp_cell {fn : Func} {p u : Tmp} {ty : TypeId} (h : fn.results = #[.tmp u, .cell p ty]) (tmps : Array Value) (P : Program) (w : World) :
    (results fn tmps).run P w =
      ((asAddr (tmps.getD p undef)).run P w).andThen fun a w₁ => ((loadVar ty a).run P w₁).andThen fun v w₂ => .ok (.tuple #[tmps.getD u undef, v]) w₂ := by
  simp only [results, h]
  simp [Sem.run_bind, Result.andThen]

theorem Goes.seen {W w : World} {base b r : Nat} {seen : Array Nat} (h : Goes W w base b r seen) : w.iterSeen r = seen := by
  unfold World.iterSeen; rw [h.iter]

theorem FRow.mono {w : World} {base base' : Nat} {v : Value} {fs : List Fd} (h : FRow w base v fs) (hb : base' ≤ base) : FRow w base' v fs := by
  obtain ⟨A, hv, hr⟩ := h
  refine ⟨A, hv, fun j f hj => ?_⟩
  obtain ⟨b, hA, h1, h2⟩ := hr j f hj
  exact ⟨b, hA, by omega, h2⟩

set_option maxRecDepth 100000 in
set_option maxHeartbeats 8000000 in
theorem formOf_any (k : Int) (W : World) : Calls Tryz.prog 34 #[.int .i64 k] W (FormPost k W) := by
  have hb0 := (Below.refl W.heap.size W).alloc (Nat.le_refl _) (.cells #[.int .i64 0, .slice none 0 0] 68)
  have HF : Hid (∀ w, Calls Tryz.prog 49 #[] w fun e w' => e = .returned (.map (some (w.heap.size + 6))) ∧ Forms w w' w.heap.size (w.heap.size + 6)) := Lib.hid forms_any
  go_enter Tryz.func34, Tryz.ntmps34
  go_wp2_with (first | (go_at_call 49; refine (HF.out _).mono ?_; rintro e w1 ⟨rfl, hf⟩; rw [World.size_alloc] at hf; have hgo := hf.begins; have hrg := run_range_map (P := Tryz.prog) w1 93 9 68 _ _ _ Tryz.underlying93 hf.map; clear hf))
  obtain ⟨X, hX⟩ : ∃ X, X = W.alloc (.cells #[.int .i64 0, .slice none 0 0] 68) := ⟨_, rfl⟩
  rw [← hX] at hgo
  obtain ⟨r, hr⟩ : ∃ r, r = w1.heap.size := ⟨_, rfl⟩
  rw [← hr] at hgo
  rw [← hr]
  have HXS : Hid (X.heap.size = W.heap.size + 1) := Lib.hid (by rw [hX, World.size_alloc])
  have HC : Hid (∀ w', Below X.heap.size X w' → w'.cell? ⟨W.heap.size, 0, none⟩ = some (.int .i64 0) ∧ w'.cell? ⟨W.heap.size, 1, none⟩ = some (.slice none 0 0) ∧ w'.frozen? ⟨W.heap.size, 0, none⟩ = false ∧ w'.frozen? ⟨W.heap.size, 1, none⟩ = false) := Lib.hid fun w' hb => by
    have e : w'.heap[W.heap.size]? = some (.cells #[.int .i64 0, .slice none 0 0] 68 (0, 0)) := by
      rw [hb.block _ (by rw [hX, World.size_alloc]; omega), hX]
      exact heap_alloc_at _ _ rfl
    refine ⟨?_, ?_, ?_, ?_⟩
    · simp [World.cell?, e]
    · simp [World.cell?, e]
    · simp [World.frozen?, e]
    · simp [World.frozen?, e]
  have HBX : Hid (Below W.heap.size W X) := Lib.hid (hX ▸ hb0)
  have HGO := Lib.hid hgo
  have HR := Lib.hid hr
  clear hgo hX hr hb0
  go_loopw [4] (fun _ wr => ∃ seen, Hid (Goes X wr (W.heap.size + 1) (W.heap.size + 1 + 6) r seen) ∧ Hid (∀ i, i < 11 → seen.contains i = true → k ≠ ((i + 1 : Nat) : Int))) (fun _ wr => toCome (wr.iterSeen r))
  case atStart => exact ⟨#[], HGO, Lib.hid fun i _ h => by simp at h⟩
  case round =>
    clear HGO hrg
    obtain ⟨seen, HG, HN⟩ := hrel
    have hs := HG.out.seen
    go_wp2_with (at_next; refine wpList_next_forms _ rfl _ rfl X (W.heap.size + 1) (W.heap.size + 1 + 6) r seen rfl HG.out ?_ ?_)
    · intro hall
      have HA := Lib.hid hall
      clear hall
      obtain ⟨c0, c1, f0, f1⟩ := HC.out _ HG.out.forms.below
      go_wp2
      have hbw : Below W.heap.size W wr := HBX.out.trans (HG.out.forms.below.mono (by rw [HXS.out]; omega))
      have hlt := hbw.size
      refine bodyPost_ret_by (v := .tuple #[.string ⟨#[]⟩, .agg #[.int .i64 0, .slice none 0 0]]) ?_ rfl ?_
      · rw [results_tmp_cell (fn := Tryz.f34) rfl]
        go_simp
      refine ⟨(hbw.setCell (p := ⟨W.heap.size, 0, none⟩) (Nat.le_refl _) _).setCell (p := ⟨W.heap.size, 1, none⟩) (Nat.le_refl _) _, .inr ⟨?_, rfl⟩⟩
      intro hk
      obtain ⟨i, hi⟩ := Int.eq_ofNat_of_zero_le (show 0 ≤ k - 1 by have := hk.1; omega)
      exact HN.out i (by have := hk.2; omega) (by have h := HA.out i (by have := hk.2; omega); simpa using h) (by omega)
    · intro i w' hi hlt hg hen
      have hs' := hg.seen
      have HG' := Lib.hid hg
      obtain ⟨A, hv, hr'⟩ := hg.forms.rows (i + 1) (by omega)
      rw [hv] at hen ⊢
      obtain ⟨c0, c1, f0, f1⟩ := HC.out _ hg.forms.below
      have hlt0 : W.heap.size < w'.heap.size := by have := hg.forms.below.size; have := HXS.out; omega
      have HV := Lib.hid hv
      clear hg hr' hv
      by_cases hk : ((i + 1 : Nat) : Int) = k
      · subst hk
        go_wp2
        go_region
        go_wp2
        have hbw : Below W.heap.size W w' := HBX.out.trans (HG'.out.forms.below.mono (by rw [HXS.out]; omega))
        have hfr := HG'.out.forms.rows (i + 1) (by omega)
        rw [HV.out] at hfr
        refine bodyPost_ret_by (v := .tuple #[.string (nameOf (i + 1)), .agg #[.int .i64 ((i + 1 : Nat) : Int), .slice A (flds (i + 1)).length (flds (i + 1)).length]]) ?_ rfl ?_
        · rw [results_tmp_cell (fn := Tryz.f34) rfl]
          go_simp
        · have hb2 : Below W.heap.size w' (((w'.setCell ⟨W.heap.size, 0, none⟩ (.int .i64 ((i : Int) + 1))).setCell ⟨W.heap.size, 1, none⟩ (.slice A (flds (i + 1)).length (flds (i + 1)).length)).alloc (.cells #[.int .i64 ((i : Int) + 1), .slice A (flds (i + 1)).length (flds (i + 1)).length] 68)).drew :=
            ((((Below.refl _ w').setCell (p := ⟨W.heap.size, 0, none⟩) (Nat.le_refl _) _).setCell (p := ⟨W.heap.size, 1, none⟩) (Nat.le_refl _) _).alloc (by simp only [World.size_setCell]; omega) _).drew
          refine ⟨hbw.trans hb2, .inl ⟨i, _, hi, rfl, rfl, ?_⟩⟩
          obtain ⟨A', hv', hr'⟩ := hfr
          refine ⟨A', hv', fun j f hj => ?_⟩
          obtain ⟨b, hA, h1, h2, h3, h4⟩ := hr' j f hj
          have e : (((w'.setCell ⟨W.heap.size, 0, none⟩ (.int .i64 ((i : Int) + 1))).setCell ⟨W.heap.size, 1, none⟩ (.slice A (flds (i + 1)).length (flds (i + 1)).length)).alloc (.cells #[.int .i64 ((i : Int) + 1), .slice A (flds (i + 1)).length (flds (i + 1)).length] 68)).drew.heap[b]? = w'.heap[b]? := by
            show ((_ : World).alloc _).heap[b]? = _
            rw [heap_alloc_past _ _ (by simp only [World.size_setCell]; omega), Below.heap_setCell _ _ _ _ (by simp; omega), Below.heap_setCell _ _ _ _ (by simp; omega)]
          exact ⟨b, hA, by omega, Nat.lt_of_lt_of_le h2 hb2.size, (World.cell?_of_block (a := ⟨b, j * 2, none⟩) e).trans h3, (World.cell?_of_block (a := ⟨b, j * 2 + 1, none⟩) e).trans h4⟩
      · have t1 : (((i + 1 : Nat) : Int) == k) = false := by simpa using hk
        go_wp2
        have hgo := HG'.out.go ((Below.refl w'.heap.size w').alloc (Nat.le_refl _) (Obj.cells #[Value.int IntKind.i64 ((i : Int) + 1), Value.slice A (flds (i + 1)).length (flds (i + 1)).length] 68)) (Nat.le_refl _)
        refine ⟨⟨seen.push i, Lib.hid hgo, Lib.hid fun j hj hc => ?_⟩, by rw [hgo.seen, hs]; exact hlt⟩
        rw [contains_push] at hc
        cases hcs : seen.contains j with
        | true => exact HN.out j hj hcs
        | false =>
          rw [hcs, Bool.false_or] at hc
          have : j = i := by simpa using hc
          subst this
          exact fun e => hk e.symm
end Go.Proofs.YtkpofjfndokaeaaGreatDoor
