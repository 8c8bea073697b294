/- Calls: what they are; what a closure of a field hands back; script.rightCall. -/
import Derived.Test.YtkpofjfndokaeaaGreatDoorA4
import Derived.Laws.StructEq
namespace Go.Proofs.YtkpofjfndokaeaaGreatDoor
open Go.RowKit
set_option linter.unusedVariables false
set_option linter.unusedSimpArgs false

structure Cl where
  kind : Int
  mode : Int
  key : ByteArray
  high : ByteArray
  val : ByteArray
  draw : Int
  n : Int
  deriving DecidableEq
def Cl.v (c : Cl) : Value := .agg #[.int .i64 c.kind, .int .i64 c.mode, .string c.key, .string c.high, .string c.val, .int .i64 c.draw, .int .i64 c.n]
def Cl.zero (k : Int) : Cl := ⟨k, 0, ⟨#[]⟩, ⟨#[]⟩, ⟨#[]⟩, 0, 0⟩

/-- Which cell of a call a field is. -/
def Fd.off : Fd → Nat
  | .mode => 1 | .key => 2 | .high => 3 | .val => 4 | .draw => 5 | .n => 6
def Fd.isTxt : Fd → Bool
  | .key => true | .high => true | .val => true | _ => false
def Fd.fn : Fd → FuncId
  | .key => 64 | .high => 65 | .val => 66 | .mode => 67 | .draw => 68 | .n => 69

set_option maxHeartbeats 1000000 in
theorem field_any (f : Fd) (b : Nat) (w : World) : Calls Tryz.prog f.fn #[.pointer (some ⟨b, 0, none⟩)] w fun e w' => e = .returned (.pointer (some ⟨b, f.off, none⟩)) ∧ w' = w := by
  cases f
  case mode => show Calls Tryz.prog 67 _ _ _; go_enter Tryz.func67, Tryz.ntmps67; go_wp2; go_ret; exact ⟨rfl, rfl⟩
  case key => show Calls Tryz.prog 64 _ _ _; go_enter Tryz.func64, Tryz.ntmps64; go_wp2; go_ret; exact ⟨rfl, rfl⟩
  case high => show Calls Tryz.prog 65 _ _ _; go_enter Tryz.func65, Tryz.ntmps65; go_wp2; go_ret; exact ⟨rfl, rfl⟩
  case val => show Calls Tryz.prog 66 _ _ _; go_enter Tryz.func66, Tryz.ntmps66; go_wp2; go_ret; exact ⟨rfl, rfl⟩
  case draw => show Calls Tryz.prog 68 _ _ _; go_enter Tryz.func68, Tryz.ntmps68; go_wp2; go_ret; exact ⟨rfl, rfl⟩
  case n => show Calls Tryz.prog 69 _ _ _; go_enter Tryz.func69, Tryz.ntmps69; go_wp2; go_ret; exact ⟨rfl, rfl⟩

theorem formOf_ok (i : Nat) (hi : i < 11) (W : World) : Calls Tryz.prog 34 #[.int .i64 ((i + 1 : Nat) : Int)] W fun e w' => ∃ A, e = .returned (.tuple #[.string (nameOf (i + 1)), .agg #[.int .i64 ((i + 1 : Nat) : Int), .slice A (flds (i + 1)).length (flds (i + 1)).length]]) ∧
      Below W.heap.size W w' ∧ FRow w' W.heap.size (.slice A (flds (i + 1)).length (flds (i + 1)).length) (flds (i + 1)) := by
  refine (formOf_any _ W).mono ?_
  rintro e w' ⟨hb, h | h⟩
  · obtain ⟨j, s, hj, hk, he, hr⟩ := h
    obtain rfl : i = j := by omega
    obtain ⟨A, rfl, hr2⟩ := hr
    exact ⟨A, he, hb, A, rfl, hr2⟩
  · exact absurd ⟨by omega, by omega⟩ h.1
theorem formOf_no (k : Int) (hk : ¬ kindOk k) (W : World) : Calls Tryz.prog 34 #[.int .i64 k] W fun e w' => e = .returned (.tuple #[.string ⟨#[]⟩, .agg #[.int .i64 0, .slice none 0 0]]) ∧ Below W.heap.size W w' := by
  refine (formOf_any _ W).mono ?_
  rintro e w' ⟨hb, h | h⟩
  · obtain ⟨j, s, hj, rfl, _⟩ := h
    exact absurd ⟨by omega, by omega⟩ hk
  · exact ⟨h.2, hb⟩

def Cl.cells (c : Cl) : Array Value := #[.int .i64 c.kind, .int .i64 c.mode, .string c.key, .string c.high, .string c.val, .int .i64 c.draw, .int .i64 c.n]
def Cl.clear (c : Cl) : Fd → Cl
  | .mode => { c with mode := 0 } | .key => { c with key := ⟨#[]⟩ } | .high => { c with high := ⟨#[]⟩ } | .val => { c with val := ⟨#[]⟩ } | .draw => { c with draw := 0 } | .n => { c with n := 0 }
def int32B (z : Int) : Bool := decide (-2147483648 ≤ z ∧ z ≤ 2147483647)
def Fd.ok (c : Cl) : Fd → Bool
  | .mode => int32B c.mode | .key => decide (c.key.size ≤ 80) | .high => decide (c.high.size ≤ 80) | .val => decide (c.val.size ≤ 80) | .draw => int32B c.draw | .n => int32B c.n
/-- Is a call right? -/
def rcall (c : Cl) : Bool := decide (1 ≤ c.kind ∧ c.kind ≤ 11) && (flds c.kind.toNat).all (Fd.ok c) && decide ((flds c.kind.toNat).foldl Cl.clear c = Cl.zero c.kind)

theorem nameOf_ne (i : Nat) (hi : i < 11) : (nameOf (i + 1) != ⟨#[]⟩) = true := by
  have : i = 0 ∨ i = 1 ∨ i = 2 ∨ i = 3 ∨ i = 4 ∨ i = 5 ∨ i = 6 ∨ i = 7 ∨ i = 8 ∨ i = 9 ∨ i = 10 := by omega
  rcases this with rfl | rfl | rfl | rfl | rfl | rfl | rfl | rfl | rfl | rfl | rfl <;> decide

theorem nameOf_list (i : Nat) (hi : i < 11) : ¬ (nameOf (i + 1)).toList = [] := by
  have : i = 0 ∨ i = 1 ∨ i = 2 ∨ i = 3 ∨ i = 4 ∨ i = 5 ∨ i = 6 ∨ i = 7 ∨ i = 8 ∨ i = 9 ∨ i = 10 := by omega
  rcases this with rfl | rfl | rfl | rfl | rfl | rfl | rfl | rfl | rfl | rfl | rfl <;> (rw [ByteArray.toList_eq]; decide)

/-- A call lies in block b. -/
def ClAt (w : World) (b : Nat) (c : Cl) : Prop := w.heap[b]? = some (.cells c.cells 25 (0, 0))
theorem ClAt.facts {w : World} {b : Nat} {c : Cl} (h : ClAt w b c) : w.cell? ⟨b, 0, none⟩ = some (.int .i64 c.kind) ∧ w.cell? ⟨b, 1, none⟩ = some (.int .i64 c.mode) ∧ w.cell? ⟨b, 2, none⟩ = some (.string c.key) ∧ w.cell? ⟨b, 3, none⟩ = some (.string c.high) ∧
    w.cell? ⟨b, 4, none⟩ = some (.string c.val) ∧ w.cell? ⟨b, 5, none⟩ = some (.int .i64 c.draw) ∧ w.cell? ⟨b, 6, none⟩ = some (.int .i64 c.n) := by
  unfold ClAt at h
  simp [World.cell?, h, Cl.cells]
theorem ClAt.frozen {w : World} {b : Nat} {c : Cl} (h : ClAt w b c) (j : Nat) : w.frozen? ⟨b, j, none⟩ = false := by
  unfold ClAt at h
  simp [World.frozen?, h]
theorem ClAt.lt {w : World} {b : Nat} {c : Cl} (h : ClAt w b c) : b < w.heap.size := (Array.getElem?_eq_some_iff.1 h).1
theorem ClAt.go {w w' : World} {b n : Nat} {c : Cl} (h : ClAt w b c) (hb : Below n w w') (hn : b < n) : ClAt w' b c := (hb.block b hn).trans h
theorem ClAt.fresh (w : World) (c : Cl) : ClAt (w.alloc (.cells c.cells 25)) w.heap.size c := heap_alloc_at _ _ rfl
theorem ClAt.clear {w : World} {b : Nat} {c : Cl} (h : ClAt w b c) (f : Fd) : ClAt (w.setCell ⟨b, f.off, none⟩ (if f.isTxt then .string ⟨#[]⟩ else .int .i64 0)) b (c.clear f) := by
  unfold ClAt at h ⊢
  obtain ⟨hlt, hk⟩ := Array.getElem?_eq_some_iff.1 h
  show (w.heap.modify b _)[b]? = _
  rw [Array.getElem?_eq_getElem (by rw [Array.size_modify]; exact hlt), Array.getElem_modify_self, hk]
  cases f <;> rfl
theorem ClAt.other {w : World} {b : Nat} {c : Cl} (h : ClAt w b c) (p : Addr) (v : Value) (hne : b ≠ p.block) : ClAt (w.setCell p v) b c := (Below.heap_setCell w p v b hne).trans h

theorem neq_func {w : World} (f : Fn) (a b : Array Value) : (binOp .neq 71 (.func f a b) .nilFunc).run Tryz.prog w = .ok (.bool true) w := by kernel_rfl
theorem neq_nilFunc {w : World} : (binOp .neq 71 .nilFunc .nilFunc).run Tryz.prog w = .ok (.bool false) w := by kernel_rfl
theorem toList_inj {a b : ByteArray} (h : a.toList = b.toList) : a = b := by
  have h2 : (a == b) = (a.toList == b.toList) := beq_toListBytes a b
  rw [h, beq_self_eq_true] at h2
  rcases a with ⟨a⟩; rcases b with ⟨b⟩
  have := eq_of_beq (α := Array UInt8) (a := a) (b := b) h2
  rw [this]
theorem eql_cl (a b : Cl) (w : World) : (binOp .eql 25 a.v b.v).run Tryz.prog w = .ok (.bool (decide (a = b))) w := by
  unfold Cl.v
  go_simp
  by_cases h : a = b
  · subst h; simp
  · rw [decide_eq_false h]
    repeat' split
    all_goals first
      | rfl
      | (rename_i h1 h2 h3 h4 h5 h6 h7
         exact absurd (by
           obtain ⟨a1, a2, a3, a4, a5, a6, a7⟩ := a
           obtain ⟨b1, b2, b3, b4, b5, b6, b7⟩ := b
           simp only at h1 h2 h3 h4 h5 h6 h7
           rw [h1, h2, toList_inj h3, toList_inj h4, toList_inj h5, h6, h7]) h)
end Go.Proofs.YtkpofjfndokaeaaGreatDoor
