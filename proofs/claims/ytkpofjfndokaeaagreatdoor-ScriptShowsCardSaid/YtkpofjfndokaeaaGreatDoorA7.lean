/- script.rightEvent: the walk. -/
import Derived.Test.YtkpofjfndokaeaaGreatDoorA6
namespace Go.Proofs.YtkpofjfndokaeaaGreatDoor
open Go.RowKit
set_option linter.unusedVariables false
set_option linter.unusedSimpArgs false

structure Ev where
  kind : Int
  w : Int
  call : Cl
  n : Int
  tear : Int
  deriving DecidableEq
def Ev.cells (x : Ev) : Array Value := #[.int .i64 x.kind, .int .i64 x.w, .int .i64 x.call.kind, .int .i64 x.call.mode, .string x.call.key, .string x.call.high, .string x.call.val, .int .i64 x.call.draw, .int .i64 x.call.n, .int .i64 x.n, .int .i64 x.tear]
def Ev.v (x : Ev) : Value := .agg x.cells
/-- An event that has nothing but a kind, a worker and two numbers. -/
def Ev.bare (k w n t : Int) : Ev := ⟨k, w, Cl.zero 0, n, t⟩
def workerB (w : Int) : Bool := decide (0 ≤ w) && decide (w < 16)
/-- Is an event right? -/
def revent (x : Ev) : Bool :=
  if x.kind = 1 then workerB x.w && rcall x.call && (x.n == 0) && (x.tear == 0)
  else if x.kind = 2 then workerB x.w && decide (0 ≤ x.n) && decide (x.n ≤ 1048576) && decide (x = Ev.bare 2 x.w x.n 0)
  else if x.kind = 3 then workerB x.w && decide (x = Ev.bare 3 x.w 0 0)
  else if x.kind = 4 then decide (0 ≤ x.n) && decide (x.n ≤ 2147483647) && decide (0 ≤ x.tear) && decide (x.tear ≤ 2147483647) && decide (x = Ev.bare 4 0 x.n x.tear)
  else if x.kind = 5 then decide (0 ≤ x.n) && decide (x.n ≤ 65536) && decide (x = Ev.bare 5 0 x.n 0)
  else false

theorem eql_ev (a b : Ev) (w : World) : (binOp .eql 27 a.v b.v).run Tryz.prog w = .ok (.bool (decide (a = b))) w := by
  unfold Ev.v Ev.cells
  go_simp
  by_cases h : a = b
  · subst h; simp
  · rw [decide_eq_false h]
    repeat' split
    all_goals first
      | rfl
      | (rename_i h1 h2 h3 h4 h5 h6 h7 h8 h9 h10 h11
         exact absurd (by
           obtain ⟨a1, a2, ⟨a3, a4, a5, a6, a7, a8, a9⟩, a10, a11⟩ := a
           obtain ⟨b1, b2, ⟨b3, b4, b5, b6, b7, b8, b9⟩, b10, b11⟩ := b
           simp only at h1 h2 h3 h4 h5 h6 h7 h8 h9 h10 h11
           rw [h1, h2, h3, h4, toList_inj h5, toList_inj h6, toList_inj h7, h8, h9, h10, h11]) h)

def EvAt (w : World) (b : Nat) (x : Ev) : Prop := w.heap[b]? = some (.cells x.cells 27 (0, 0))
theorem EvAt.facts {w : World} {b : Nat} {x : Ev} (h : EvAt w b x) : w.cell? ⟨b, 0, none⟩ = some (.int .i64 x.kind) ∧ w.cell? ⟨b, 1, none⟩ = some (.int .i64 x.w) ∧ w.cell? ⟨b, 2, none⟩ = some (.int .i64 x.call.kind) ∧ w.cell? ⟨b, 3, none⟩ = some (.int .i64 x.call.mode) ∧
    w.cell? ⟨b, 4, none⟩ = some (.string x.call.key) ∧ w.cell? ⟨b, 5, none⟩ = some (.string x.call.high) ∧ w.cell? ⟨b, 6, none⟩ = some (.string x.call.val) ∧ w.cell? ⟨b, 7, none⟩ = some (.int .i64 x.call.draw) ∧ w.cell? ⟨b, 8, none⟩ = some (.int .i64 x.call.n) ∧
    w.cell? ⟨b, 9, none⟩ = some (.int .i64 x.n) ∧ w.cell? ⟨b, 10, none⟩ = some (.int .i64 x.tear) := by
  unfold EvAt at h
  simp [World.cell?, h, Ev.cells]
theorem EvAt.fresh (w : World) (x : Ev) : EvAt (w.alloc (.cells x.cells 27)) w.heap.size x := heap_alloc_at _ _ rfl


set_option maxRecDepth 100000 in
set_option maxHeartbeats 8000000 in
theorem revent_none (x : Ev) (hk : ¬ (1 ≤ x.kind ∧ x.kind ≤ 5)) (W : World) : Calls Tryz.prog 22 #[x.v] W fun e w' => e = .returned (.bool (revent x)) ∧ Below W.heap.size W w' := by
  have hb0 := Lib.hid ((Below.refl W.heap.size W).alloc (Nat.le_refl _) (.cells x.cells 27))
  have hR : revent x = false := by
    unfold revent
    rw [if_neg (by omega), if_neg (by omega), if_neg (by omega), if_neg (by omega), if_neg (by omega)]
  rw [hR]
  have t1 : (x.kind == 1) = false := by rw [beq_eq_false_iff_ne]; omega
  have t2 : (x.kind == 2) = false := by rw [beq_eq_false_iff_ne]; omega
  have t3 : (x.kind == 3) = false := by rw [beq_eq_false_iff_ne]; omega
  have t4 : (x.kind == 4) = false := by rw [beq_eq_false_iff_ne]; omega
  have t5 : (x.kind == 5) = false := by rw [beq_eq_false_iff_ne]; omega
  unfold Ev.v
  unfold Ev.cells at hb0 ⊢
  clear hR hk
  by_cases h1 : 0 ≤ x.w
  all_goals
    go_enter Tryz.func22, Tryz.ntmps22
    go_wp2
    all_goals go_ret
    all_goals exact ⟨rfl, hb0.out⟩
end Go.Proofs.YtkpofjfndokaeaaGreatDoor
