/- The document's rule for an event: kinds 2, 3, 4, 5. -/
import Derived.Test.YtkpofjfndokaeaaGreatDoorP5
import Derived.Test.YtkpofjfndokaeaaGreatDoorA9
import Derived.Test.YtkpofjfndokaeaaGreatDoorG0
import Derived.Test.YtkpofjfndokaeaaGreatDoorC5
import Derived.Deep.RegionHeld3
import Derived.Test.YtkpofjfndokaeaaGreatDoorC7
import Derived.Test.YtkpofjfndokaeaaGreatDoorX2
import Derived.Lib.AppendStr
import Derived.Test.YtkpofjfndokaeaaGreatDoorY2
namespace Go.Proofs.YtkpofjfndokaeaaGreatDoor
open Go.RowKit
set_option linter.unusedVariables false
set_option linter.unusedSimpArgs false

set_option maxRecDepth 100000 in
set_option maxHeartbeats 4000000 in
theorem devent_2 (x : Ev) (hk : x.kind = 2) (W : World) : Calls Tryz.prog 23 #[x.v] W fun e w' => e = .returned (.bool (revent x)) ∧ Below W.heap.size W w' := by
  have hb0 := (Below.refl W.heap.size W).alloc (Nat.le_refl _) (.cells x.cells 27)
  have hxa := EvAt.fresh W x
  have heql := fun w => eql_ev x (Ev.bare 2 x.w x.n 0) w
  have hE : revent x = (decide (0 ≤ x.w) && decide (x.w < 16) && decide (0 ≤ x.n) && decide (x.n ≤ 1048576) && decide (x = Ev.bare 2 x.w x.n 0)) := by unfold revent workerB; simp [hk, Bool.and_assoc]
  rw [hE]
  generalize decide (x = Ev.bare 2 x.w x.n 0) = B at *
  unfold Ev.v Ev.bare Ev.cells Cl.zero at heql
  rw [hk] at heql
  simp only at heql
  clear hxa
  unfold Ev.v Ev.cells
  unfold Ev.cells at hb0
  rw [hk]
  rw [hk] at hb0
  have HB := Lib.hid hb0
  have HB2 := Lib.hid (fun o => hb0.alloc hb0.size o)
  clear hE hb0
  by_cases h0 : 0 ≤ x.w
  · by_cases h1 : x.w < 16
    · by_cases h2 : 0 ≤ x.n
      · by_cases h3 : x.n ≤ 1048576
        · cases B with
          | false =>
            have hv : (decide (0 ≤ x.w) && decide (x.w < 16) && decide (0 ≤ x.n) && decide (x.n ≤ 1048576) && false) = false := by simp [h0, h1, h2, h3, Bool.and_false]
            rw [hv]
            clear hv
            go_enter Tryz.func23, Tryz.ntmps23
            go_wp2
            all_goals go_ret
            all_goals exact ⟨rfl, HB2.out _⟩
          | true =>
            have hv : (decide (0 ≤ x.w) && decide (x.w < 16) && decide (0 ≤ x.n) && decide (x.n ≤ 1048576) && true) = true := by simp [h0, h1, h2, h3, Bool.and_true]
            rw [hv]
            clear hv
            go_enter Tryz.func23, Tryz.ntmps23
            go_wp2
            all_goals go_ret
            all_goals exact ⟨rfl, HB2.out _⟩
        · have hv : (decide (0 ≤ x.w) && decide (x.w < 16) && decide (0 ≤ x.n) && decide (x.n ≤ 1048576) && B) = false := by simp [h0, h1, h2, h3]
          rw [hv]
          clear hv
          go_enter Tryz.func23, Tryz.ntmps23
          go_wp2
          all_goals go_ret
          all_goals exact ⟨rfl, HB2.out _⟩
      · have hv : (decide (0 ≤ x.w) && decide (x.w < 16) && decide (0 ≤ x.n) && decide (x.n ≤ 1048576) && B) = false := by simp [h0, h1, h2]
        rw [hv]
        clear hv
        go_enter Tryz.func23, Tryz.ntmps23
        go_wp2
        all_goals go_ret
        all_goals exact ⟨rfl, HB2.out _⟩
    · have hv : (decide (0 ≤ x.w) && decide (x.w < 16) && decide (0 ≤ x.n) && decide (x.n ≤ 1048576) && B) = false := by simp [h0, h1]
      rw [hv]
      clear hv
      go_enter Tryz.func23, Tryz.ntmps23
      go_wp2
      all_goals go_ret
      all_goals exact ⟨rfl, HB2.out _⟩
  · have hv : (decide (0 ≤ x.w) && decide (x.w < 16) && decide (0 ≤ x.n) && decide (x.n ≤ 1048576) && B) = false := by simp [h0]
    rw [hv]
    clear hv
    go_enter Tryz.func23, Tryz.ntmps23
    go_wp2
    all_goals go_ret
    all_goals exact ⟨rfl, HB2.out _⟩

set_option maxRecDepth 100000 in
set_option maxHeartbeats 4000000 in
theorem devent_3 (x : Ev) (hk : x.kind = 3) (W : World) : Calls Tryz.prog 23 #[x.v] W fun e w' => e = .returned (.bool (revent x)) ∧ Below W.heap.size W w' := by
  have hb0 := (Below.refl W.heap.size W).alloc (Nat.le_refl _) (.cells x.cells 27)
  have hxa := EvAt.fresh W x
  have heql := fun w => eql_ev x (Ev.bare 3 x.w 0 0) w
  have hE : revent x = (decide (0 ≤ x.w) && decide (x.w < 16) && decide (x = Ev.bare 3 x.w 0 0)) := by unfold revent workerB; simp [hk, Bool.and_assoc]
  rw [hE]
  generalize decide (x = Ev.bare 3 x.w 0 0) = B at *
  unfold Ev.v Ev.bare Ev.cells Cl.zero at heql
  rw [hk] at heql
  simp only at heql
  clear hxa
  unfold Ev.v Ev.cells
  unfold Ev.cells at hb0
  rw [hk]
  rw [hk] at hb0
  have HB := Lib.hid hb0
  have HB2 := Lib.hid (fun o => hb0.alloc hb0.size o)
  clear hE hb0
  by_cases h0 : 0 ≤ x.w
  · by_cases h1 : x.w < 16
    · cases B with
      | false =>
        have hv : (decide (0 ≤ x.w) && decide (x.w < 16) && false) = false := by simp [h0, h1, Bool.and_false]
        rw [hv]
        clear hv
        go_enter Tryz.func23, Tryz.ntmps23
        go_wp2
        all_goals go_ret
        all_goals exact ⟨rfl, HB2.out _⟩
      | true =>
        have hv : (decide (0 ≤ x.w) && decide (x.w < 16) && true) = true := by simp [h0, h1, Bool.and_true]
        rw [hv]
        clear hv
        go_enter Tryz.func23, Tryz.ntmps23
        go_wp2
        all_goals go_ret
        all_goals exact ⟨rfl, HB2.out _⟩
    · have hv : (decide (0 ≤ x.w) && decide (x.w < 16) && B) = false := by simp [h0, h1]
      rw [hv]
      clear hv
      go_enter Tryz.func23, Tryz.ntmps23
      go_wp2
      all_goals go_ret
      all_goals exact ⟨rfl, HB2.out _⟩
  · have hv : (decide (0 ≤ x.w) && decide (x.w < 16) && B) = false := by simp [h0]
    rw [hv]
    clear hv
    go_enter Tryz.func23, Tryz.ntmps23
    go_wp2
    all_goals go_ret
    all_goals exact ⟨rfl, HB2.out _⟩

set_option maxRecDepth 100000 in
set_option maxHeartbeats 4000000 in
theorem devent_4 (x : Ev) (hk : x.kind = 4) (W : World) : Calls Tryz.prog 23 #[x.v] W fun e w' => e = .returned (.bool (revent x)) ∧ Below W.heap.size W w' := by
  have hb0 := (Below.refl W.heap.size W).alloc (Nat.le_refl _) (.cells x.cells 27)
  have hxa := EvAt.fresh W x
  have heql := fun w => eql_ev x (Ev.bare 4 0 x.n x.tear) w
  have hE : revent x = (decide (0 ≤ x.n) && decide (x.n ≤ 2147483647) && decide (0 ≤ x.tear) && decide (x.tear ≤ 2147483647) && decide (x = Ev.bare 4 0 x.n x.tear)) := by unfold revent workerB; simp [hk, Bool.and_assoc]
  rw [hE]
  generalize decide (x = Ev.bare 4 0 x.n x.tear) = B at *
  unfold Ev.v Ev.bare Ev.cells Cl.zero at heql
  rw [hk] at heql
  simp only at heql
  clear hxa
  unfold Ev.v Ev.cells
  unfold Ev.cells at hb0
  rw [hk]
  rw [hk] at hb0
  have HB := Lib.hid hb0
  have HB2 := Lib.hid (fun o => hb0.alloc hb0.size o)
  clear hE hb0
  by_cases h0 : 0 ≤ x.n
  · by_cases h1 : x.n ≤ 2147483647
    · by_cases h2 : 0 ≤ x.tear
      · by_cases h3 : x.tear ≤ 2147483647
        · cases B with
          | false =>
            have hv : (decide (0 ≤ x.n) && decide (x.n ≤ 2147483647) && decide (0 ≤ x.tear) && decide (x.tear ≤ 2147483647) && false) = false := by simp [h0, h1, h2, h3, Bool.and_false]
            rw [hv]
            clear hv
            go_enter Tryz.func23, Tryz.ntmps23
            go_wp2
            all_goals go_ret
            all_goals exact ⟨rfl, HB2.out _⟩
          | true =>
            have hv : (decide (0 ≤ x.n) && decide (x.n ≤ 2147483647) && decide (0 ≤ x.tear) && decide (x.tear ≤ 2147483647) && true) = true := by simp [h0, h1, h2, h3, Bool.and_true]
            rw [hv]
            clear hv
            go_enter Tryz.func23, Tryz.ntmps23
            go_wp2
            all_goals go_ret
            all_goals exact ⟨rfl, HB2.out _⟩
        · have hv : (decide (0 ≤ x.n) && decide (x.n ≤ 2147483647) && decide (0 ≤ x.tear) && decide (x.tear ≤ 2147483647) && B) = false := by simp [h0, h1, h2, h3]
          rw [hv]
          clear hv
          go_enter Tryz.func23, Tryz.ntmps23
          go_wp2
          all_goals go_ret
          all_goals exact ⟨rfl, HB2.out _⟩
      · have hv : (decide (0 ≤ x.n) && decide (x.n ≤ 2147483647) && decide (0 ≤ x.tear) && decide (x.tear ≤ 2147483647) && B) = false := by simp [h0, h1, h2]
        rw [hv]
        clear hv
        go_enter Tryz.func23, Tryz.ntmps23
        go_wp2
        all_goals go_ret
        all_goals exact ⟨rfl, HB2.out _⟩
    · have hv : (decide (0 ≤ x.n) && decide (x.n ≤ 2147483647) && decide (0 ≤ x.tear) && decide (x.tear ≤ 2147483647) && B) = false := by simp [h0, h1]
      rw [hv]
      clear hv
      go_enter Tryz.func23, Tryz.ntmps23
      go_wp2
      all_goals go_ret
      all_goals exact ⟨rfl, HB2.out _⟩
  · have hv : (decide (0 ≤ x.n) && decide (x.n ≤ 2147483647) && decide (0 ≤ x.tear) && decide (x.tear ≤ 2147483647) && B) = false := by simp [h0]
    rw [hv]
    clear hv
    go_enter Tryz.func23, Tryz.ntmps23
    go_wp2
    all_goals go_ret
    all_goals exact ⟨rfl, HB2.out _⟩

set_option maxRecDepth 100000 in
set_option maxHeartbeats 4000000 in
theorem devent_5 (x : Ev) (hk : x.kind = 5) (W : World) : Calls Tryz.prog 23 #[x.v] W fun e w' => e = .returned (.bool (revent x)) ∧ Below W.heap.size W w' := by
  have hb0 := (Below.refl W.heap.size W).alloc (Nat.le_refl _) (.cells x.cells 27)
  have hxa := EvAt.fresh W x
  have heql := fun w => eql_ev x (Ev.bare 5 0 x.n 0) w
  have hE : revent x = (decide (0 ≤ x.n) && decide (x.n ≤ 65536) && decide (x = Ev.bare 5 0 x.n 0)) := by unfold revent workerB; simp [hk, Bool.and_assoc]
  rw [hE]
  generalize decide (x = Ev.bare 5 0 x.n 0) = B at *
  unfold Ev.v Ev.bare Ev.cells Cl.zero at heql
  rw [hk] at heql
  simp only at heql
  clear hxa
  unfold Ev.v Ev.cells
  unfold Ev.cells at hb0
  rw [hk]
  rw [hk] at hb0
  have HB := Lib.hid hb0
  have HB2 := Lib.hid (fun o => hb0.alloc hb0.size o)
  clear hE hb0
  by_cases h0 : 0 ≤ x.n
  · by_cases h1 : x.n ≤ 65536
    · cases B with
      | false =>
        have hv : (decide (0 ≤ x.n) && decide (x.n ≤ 65536) && false) = false := by simp [h0, h1, Bool.and_false]
        rw [hv]
        clear hv
        go_enter Tryz.func23, Tryz.ntmps23
        go_wp2
        all_goals go_ret
        all_goals exact ⟨rfl, HB2.out _⟩
      | true =>
        have hv : (decide (0 ≤ x.n) && decide (x.n ≤ 65536) && true) = true := by simp [h0, h1, Bool.and_true]
        rw [hv]
        clear hv
        go_enter Tryz.func23, Tryz.ntmps23
        go_wp2
        all_goals go_ret
        all_goals exact ⟨rfl, HB2.out _⟩
    · have hv : (decide (0 ≤ x.n) && decide (x.n ≤ 65536) && B) = false := by simp [h0, h1]
      rw [hv]
      clear hv
      go_enter Tryz.func23, Tryz.ntmps23
      go_wp2
      all_goals go_ret
      all_goals exact ⟨rfl, HB2.out _⟩
  · have hv : (decide (0 ≤ x.n) && decide (x.n ≤ 65536) && B) = false := by simp [h0]
    rw [hv]
    clear hv
    go_enter Tryz.func23, Tryz.ntmps23
    go_wp2
    all_goals go_ret
    all_goals exact ⟨rfl, HB2.out _⟩
end Go.Proofs.YtkpofjfndokaeaaGreatDoor

/- The document's rule for an event: no kind. -/
namespace Go.Proofs.YtkpofjfndokaeaaGreatDoor
open Go.RowKit
set_option linter.unusedVariables false
set_option linter.unusedSimpArgs false

set_option maxRecDepth 100000 in
set_option maxHeartbeats 4000000 in
theorem devent_none (x : Ev) (hk : ¬ (1 ≤ x.kind ∧ x.kind ≤ 5)) (W : World) : Calls Tryz.prog 23 #[x.v] W fun e w' => e = .returned (.bool (revent x)) ∧ Below W.heap.size W w' := by
  have hb0 := Lib.hid ((Below.refl W.heap.size W).alloc (Nat.le_refl _) (.cells x.cells 27))
  have hR : revent x = false := by
    unfold revent
    rw [if_neg (by omega), if_neg (by omega), if_neg (by omega), if_neg (by omega), if_neg (by omega)]
  rw [hR]
  have t1 : (x.kind == 1) = false := by rw [beq_eq_false_iff_ne]; omega
  have t2 : (x.kind == 2) = false := by rw [beq_eq_false_iff_ne]; omega
  have t3 : (x.kind == 3) = false := by rw [beq_eq_false_iff_ne]; omega
  have t4 : (x.kind == 4) = false := by rw [beq_eq_false_iff_ne]; omega
  have t5 : (x.kind == 5) = false := by rw [beq_eq_false_iff_ne]; omega
  unfold Ev.v
  unfold Ev.cells at hb0 ⊢
  clear hR hk
  have HB2 := Lib.hid (fun o => hb0.out.alloc hb0.out.size o)
  rcases (show (¬ 0 ≤ x.w) ∨ (0 ≤ x.w ∧ x.w < 16) ∨ (0 ≤ x.w ∧ ¬ x.w < 16) by omega) with h1 | ⟨h1, h2⟩ | ⟨h1, h2⟩
  all_goals
    go_enter Tryz.func23, Tryz.ntmps23
    go_wp2
    all_goals go_ret
    all_goals exact ⟨rfl, HB2.out _⟩
end Go.Proofs.YtkpofjfndokaeaaGreatDoor

/- The document's rule for an event: kind 1. -/
namespace Go.Proofs.YtkpofjfndokaeaaGreatDoor
open Go.RowKit
set_option linter.unusedVariables false
set_option linter.unusedSimpArgs false

/-- A worker and a call are stored into the event of block b. -/
def evStore1 (w : World) (b : Nat) (n : Int) (c : Cl) : World := (((((((w.setCell ⟨b, 1, none⟩ (.int .i64 n)).setCell ⟨b, 2, none⟩ (.int .i64 c.kind)).setCell ⟨b, 3, none⟩ (.int .i64 c.mode)).setCell ⟨b, 4, none⟩ (.string c.key)).setCell ⟨b, 5, none⟩ (.string c.high)).setCell ⟨b, 6, none⟩ (.string c.val)).setCell ⟨b, 7, none⟩ (.int .i64 c.draw)).setCell ⟨b, 8, none⟩ (.int .i64 c.n)
theorem evStore1_def (w : World) (b : Nat) (n : Int) (c : Cl) : (((((((w.setCell ⟨b, 1, none⟩ (.int .i64 n)).setCell ⟨b, 2, none⟩ (.int .i64 c.kind)).setCell ⟨b, 3, none⟩ (.int .i64 c.mode)).setCell ⟨b, 4, none⟩ (.string c.key)).setCell ⟨b, 5, none⟩ (.string c.high)).setCell ⟨b, 6, none⟩ (.string c.val)).setCell ⟨b, 7, none⟩ (.int .i64 c.draw)).setCell ⟨b, 8, none⟩ (.int .i64 c.n) = evStore1 w b n c := rfl
theorem evStore1_at {w : World} {b : Nat} {x0 : Ev} (h : EvAt w b x0) (n : Int) (c : Cl) : EvAt (evStore1 w b n c) b ⟨x0.kind, n, c, x0.n, x0.tear⟩ := by
  unfold EvAt at h ⊢
  unfold evStore1
  have h7 := setCell_at (setCell_at (setCell_at (setCell_at (setCell_at (setCell_at (setCell_at (setCell_at h 1 (.int .i64 n)) 2 (.int .i64 c.kind)) 3 (.int .i64 c.mode)) 4 (.string c.key)) 5 (.string c.high)) 6 (.string c.val)) 7 (.int .i64 c.draw)) 8 (.int .i64 c.n)
  rw [h7]
  unfold Ev.cells
  simp only [List.setIfInBounds_toArray, List.set]
theorem evStore1_other {w : World} {b b' : Nat} {x0 : Ev} (h : EvAt w b' x0) (n : Int) (c : Cl) (hne : b' ≠ b) : EvAt (evStore1 w b n c) b' x0 := by
  unfold EvAt at h ⊢
  unfold evStore1
  iterate 8 rw [Below.heap_setCell _ _ _ _ hne]
  exact h
theorem evStore1_below {w W : World} {b k : Nat} (h : Below k W w) (hb : k ≤ b) (n : Int) (c : Cl) : Below k W (evStore1 w b n c) :=
  (((((((h.setCell (p := ⟨b, 1, none⟩) hb _).setCell (p := ⟨b, 2, none⟩) hb _).setCell (p := ⟨b, 3, none⟩) hb _).setCell (p := ⟨b, 4, none⟩) hb _).setCell (p := ⟨b, 5, none⟩) hb _).setCell (p := ⟨b, 6, none⟩) hb _).setCell (p := ⟨b, 7, none⟩) hb _).setCell (p := ⟨b, 8, none⟩) hb _

set_option maxRecDepth 100000 in
set_option maxHeartbeats 4000000 in
theorem devent_1 (x : Ev) (hk : x.kind = 1) (W : World) : Calls Tryz.prog 23 #[x.v] W fun e w' => e = .returned (.bool (revent x)) ∧ Below W.heap.size W w' := by
  have HRC : Hid (∀ w, Calls Tryz.prog 39 #[x.call.v] w fun e w' => e = .returned (.bool (rcall x.call)) ∧ Below w.heap.size w w') := Lib.hid fun w => by
    by_cases h : 1 ≤ x.call.kind ∧ x.call.kind ≤ 11
    · exact dcall_in x.call w h.1 h.2
    · exact dcall_out x.call w (by omega)
  have heql := fun w => eql_ev x ⟨1, x.w, x.call, 0, 0⟩ w
  have hE : revent x = (rcall x.call && (decide (0 ≤ x.w) && decide (x.w < 16)) && decide (x = ⟨1, x.w, x.call, 0, 0⟩)) := by
    unfold revent workerB
    rw [if_pos hk]
    obtain ⟨kd, xw, c, n, t⟩ := x
    simp only at hk
    subst hk
    rw [Bool.eq_iff_iff]
    simp only [Bool.and_eq_true, decide_eq_true_eq, beq_iff_eq, Ev.mk.injEq, true_and]
    constructor
    · rintro ⟨⟨⟨⟨a, b⟩, c⟩, d⟩, e⟩
      exact ⟨⟨c, a, b⟩, d, e⟩
    · rintro ⟨⟨c, a, b⟩, d, e⟩
      exact ⟨⟨⟨⟨a, b⟩, c⟩, d⟩, e⟩
  rw [hE]
  generalize decide (x = (⟨1, x.w, x.call, 0, 0⟩ : Ev)) = B at *
  generalize rcall x.call = R at *
  have HEQ := Lib.hid heql
  unfold Cl.v at HRC
  obtain ⟨wB, hwB⟩ : ∃ wB, wB = (W.alloc (.cells x.cells 27)).alloc (.cells (Ev.bare 1 0 0 0).cells 27) := ⟨_, rfl⟩
  have hz : (W.alloc (.cells x.cells 27)).heap.size = W.heap.size + 1 := World.size_alloc _ _
  have hb0 := (Below.refl W.heap.size W).alloc (Nat.le_refl _) (.cells x.cells 27)
  have hbB : Below W.heap.size W wB := by rw [hwB]; exact hb0.alloc hb0.size _
  have hBz : wB.heap.size = W.heap.size + 2 := by rw [hwB, World.size_alloc, hz]
  have hx0 : EvAt wB W.heap.size x := by rw [hwB]; exact (heap_alloc_past _ _ (by omega)).trans (EvAt.fresh W x)
  have hy0 : EvAt wB (W.heap.size + 1) (Ev.bare 1 0 0 0) := by rw [hwB]; exact heap_alloc_at _ _ (by rw [hz])
  have HX : Hid (∀ w, Below wB.heap.size wB w → EvAt w W.heap.size x ∧ EvAt w (W.heap.size + 1) (Ev.bare 1 0 0 0) ∧ Below W.heap.size W w) := Lib.hid fun w hb => ⟨(hb.block _ (by omega)).trans hx0, (hb.block _ (by omega)).trans hy0, hbB.trans (hb.mono (by omega))⟩
  have HK := Lib.hid hk
  obtain ⟨c0, c1, c2, c3, c4, c5, c6, c7, c8, c9, c10⟩ := hx0.facts
  rw [hk] at c0
  clear hbB hBz hx0 hy0 hz hb0 hE heql
  unfold Ev.cells Ev.bare Cl.zero at hwB
  rw [hk] at hwB
  simp only at hwB
  unfold Ev.v Ev.cells
  rw [hk]
  clear hk
  obtain ⟨D, hD⟩ : ∃ D, D = (decide (0 ≤ x.w) && decide (x.w < 16)) := ⟨_, rfl⟩
  rw [← hD]
  have hcs : (¬ 0 ≤ x.w ∧ D = false) ∨ (0 ≤ x.w ∧ 16 ≤ x.w ∧ D = false) ∨ (0 ≤ x.w ∧ x.w < 16 ∧ D = true) := by
    by_cases h1 : 0 ≤ x.w
    · by_cases h2 : x.w < 16
      · exact .inr (.inr ⟨h1, h2, by rw [hD]; simp [h1, h2]⟩)
      · exact .inr (.inl ⟨h1, by omega, by rw [hD]; simp [h2]⟩)
    · exact .inl ⟨h1, by rw [hD]; simp [h1]⟩
  clear hD
  rcases hcs with ⟨h1, rfl⟩ | ⟨h1, h2, rfl⟩ | ⟨h1, h2, rfl⟩
  all_goals
    go_enter Tryz.func23, Tryz.ntmps23
    go_upto_region 3 with fail
    rw [← hwB]
    clear hwB
    go_upto_region 6 with (go_at_call 39; refine (HRC.out _).mono ?_; rintro e w1 ⟨rfl, hb1⟩; have HB1 := Lib.hid hb1; clear hb1 c0 c1 c2 c3 c4 c5 c6 c7 c8 c9 c10)
    obtain ⟨hx1, hy1, hw1⟩ := HX.out w1 HB1.out
    have HXX := Lib.hid hx1
    have HYY := Lib.hid hy1
    have HWW := Lib.hid hw1
    obtain ⟨c0, c1, c2, c3, c4, c5, c6, c7, c8, c9, c10⟩ := hx1.facts
    obtain ⟨f0, f1, f2, f3, f4, f5, f6, f7, f8, f9, f10⟩ := hy1.facts
    have hfr := hy1.frozen
    have t1 := hfr 1
    have t2 := hfr 2
    have t3 := hfr 3
    have t4 := hfr 4
    have t5 := hfr 5
    have t6 := hfr 6
    have t7 := hfr 7
    have t8 := hfr 8
    clear hx1 hy1 hw1 hfr
    go_upto_region 8 with fail
    rw [evStore1_def w1 (W.heap.size + 1) x.w x.call]
    have hxF := evStore1_other HXX.out x.w x.call (show W.heap.size ≠ W.heap.size + 1 by omega)
    have hyF := evStore1_at HYY.out x.w x.call
    have hwF := evStore1_below HWW.out (Nat.le_succ _) x.w x.call
    clear c0 c1 c2 c3 c4 c5 c6 c7 c8 c9 c10 f0 f1 f2 f3 f4 f5 f6 f7 f8 f9 f10 t1 t2 t3 t4 t5 t6 t7 t8
    generalize evStore1 w1 (W.heap.size + 1) x.w x.call = wF at *
    obtain ⟨c0, c1, c2, c3, c4, c5, c6, c7, c8, c9, c10⟩ := hxF.facts
    obtain ⟨f0, f1, f2, f3, f4, f5, f6, f7, f8, f9, f10⟩ := hyF.facts
    have hq := HEQ.out
    unfold Ev.v Ev.cells at hq
    simp only at hq
    simp only [Ev.bare] at f0 f1 f2 f3 f4 f5 f6 f7 f8 f9 f10
    rw [HK.out] at c0 hq
    have HWF := Lib.hid hwF
    clear hxF hyF hwF
    cases R <;> cases B
    all_goals
      go_wp2_with fail
      go_ret
      exact ⟨rfl, HWF.out⟩
end Go.Proofs.YtkpofjfndokaeaaGreatDoor

/- The document's names; its line: the walk, of events that are right. -/
namespace Go.Proofs.YtkpofjfndokaeaaGreatDoor
open Go.RowKit
set_option linter.unusedVariables false
set_option linter.unusedSimpArgs false

/-- The names of calls lie in block b. -/
def NamesAt (w : World) (b : Nat) : Prop := ∀ k : Nat, 1 ≤ k → k ≤ 11 → w.cell? ⟨b, k, none⟩ = some (.string (nameOf k))
def namesC : Array Value := #[.string ⟨#[]⟩, .string (nameOf 1), .string (nameOf 2), .string (nameOf 3), .string (nameOf 4), .string (nameOf 5), .string (nameOf 6), .string (nameOf 7), .string (nameOf 8), .string (nameOf 9), .string (nameOf 10), .string (nameOf 11)]
theorem NamesAt.fresh (W : World) : NamesAt (W.alloc (.cells namesC 9)) W.heap.size := by
  intro k h1 h2
  have e : (W.alloc (.cells namesC 9)).heap[W.heap.size]? = some (.cells namesC 9 (0, 0)) := heap_alloc_at _ _ rfl
  have hk : k = 1 ∨ k = 2 ∨ k = 3 ∨ k = 4 ∨ k = 5 ∨ k = 6 ∨ k = 7 ∨ k = 8 ∨ k = 9 ∨ k = 10 ∨ k = 11 := by omega
  rcases hk with rfl | rfl | rfl | rfl | rfl | rfl | rfl | rfl | rfl | rfl | rfl <;> (unfold World.cell?; simp only [e]; rfl)
set_option maxRecDepth 100000 in
set_option maxHeartbeats 4000000 in
theorem dnames_any (W : World) : Calls Tryz.prog 35 #[] W fun e w' => e = .returned (.slice (some ⟨W.heap.size, 0, none⟩) 12 12) ∧ NamesAt w' W.heap.size ∧ Below W.heap.size W w' := by
  have HB := Lib.hid ((Below.refl W.heap.size W).alloc (Nat.le_refl _) (.cells namesC 9))
  have HN := Lib.hid (NamesAt.fresh W)
  go_enter Tryz.func35, Tryz.ntmps35
  go_wp2_with fail
  go_ret
  exact ⟨rfl, HN.out, HB.out⟩

set_option maxRecDepth 20000 in
theorem clOk_of {c : Cl} (h : rcall c = true) : ClOk c := by
  obtain ⟨⟨i, hi, hk⟩, _⟩ := rcall_kind h
  rw [dcallB_eq c (by omega) (by omega)] at h
  unfold dcallB int32B at h
  simp only [Bool.and_eq_true, decide_eq_true_eq] at h
  obtain ⟨⟨⟨⟨h1, h2⟩, h3⟩, ⟨h4, h5⟩, h6⟩, _⟩ := h
  exact ⟨by omega, by omega, by omega, by omega, by omega, by omega, by omega, by omega, by omega⟩
theorem ba_mk {T : ByteArray} {l : List UInt8} (h : T.data.toList = l) : T = ⟨l.toArray⟩ := by
  subst h; rfl
/-- What is written of a call behind so many fields. -/
def lineP (w : List UInt8) (nm : List UInt8) (c : Cl) (fs : List Fd) (n : Nat) : List UInt8 := w ++ [32] ++ nm ++ (fs.take n).flatMap (fun f => 32 :: Fd.text c f)
theorem lineP_all (w nm : List UInt8) (c : Cl) (fs : List Fd) : lineP w nm c fs fs.length = Lib.join (w :: nm :: fs.map (Fd.text c)) [32] := by
  unfold lineP
  rw [List.take_length, Lib.join_cons]
  have key : ∀ l : List Fd, Lib.joinTail [32] (l.map (Fd.text c)) = l.flatMap (fun f => 32 :: Fd.text c f) := by
    intro l
    induction l with
    | nil => rfl
    | cons f l ih =>
      have e : Lib.joinTail [32] ((f :: l).map (Fd.text c)) = 32 :: Fd.text c f ++ Lib.joinTail [32] (l.map (Fd.text c)) := by simp [Lib.joinTail]
      rw [e, ih]
      simp
  have e : Lib.joinTail [32] (nm :: fs.map (Fd.text c)) = 32 :: nm ++ Lib.joinTail [32] (fs.map (Fd.text c)) := by simp [Lib.joinTail]
  rw [e, key]
  simp
theorem lineP_step (w nm : List UInt8) (c : Cl) (fs : List Fd) (n : Nat) (f : Fd) (h : fs[n]? = some f) : lineP w nm c fs (n + 1) = lineP w nm c fs n ++ [32] ++ Fd.text c f := by
  obtain ⟨h1, h2⟩ := List.getElem?_eq_some_iff.1 h
  unfold lineP
  rw [List.take_succ_eq_append_getElem h1, List.flatMap_append, h2]
  simp
theorem lineP_le (w nm : List UInt8) (c : Cl) (fs : List Fd) (n : Nat) (hf : ∀ f ∈ fs, (Fd.text c f).length ≤ 400) : (lineP w nm c fs n).length ≤ w.length + 1 + nm.length + n * 401 := by
  induction n with
  | zero => simp [lineP]; omega
  | succ n ih =>
    by_cases h : n < fs.length
    · rw [lineP_step w nm c fs n fs[n] (List.getElem?_eq_getElem h)]
      have := hf fs[n] (List.getElem_mem h)
      rw [List.length_append, List.length_append, Nat.succ_mul]
      show _ + 1 + _ ≤ _
      generalize n * 401 = z at *
      omega
    · have e : lineP w nm c fs (n + 1) = lineP w nm c fs n := by
        unfold lineP
        rw [List.take_of_length_le (by omega), List.take_of_length_le (by omega)]
      rw [e, Nat.succ_mul]
      generalize n * 401 = z at *
      omega

set_option maxRecDepth 100000 in
set_option maxHeartbeats 4000000 in
theorem dline_1 (x : Ev) (hk : x.kind = 1) (hr : revent x = true) (W : World) : Calls Tryz.prog 21 #[x.v] W fun e w' => e = .returned (.string ⟨(lineB x).toArray⟩) ∧ Below W.heap.size W w' := by
  obtain ⟨_, hw1, hw2, hn1, hn2, _, _, hrc⟩ := revent_bounds hr
  have hr1 := hrc hk
  obtain ⟨⟨i, hi11, hci⟩, hok⟩ := rcall_kind hr1
  have hcl := clOk_of hr1
  obtain ⟨k, hkk⟩ : ∃ k, k = i + 1 := ⟨_, rfl⟩
  rw [← hkk] at hci
  have hk1 : 1 ≤ k := by omega
  have hk2 : k ≤ 11 := by omega
  have k0 : (0 : Int) ≤ (k : Int) := by omega
  have k1 : (k : Int) < 12 := by omega
  have HD : Hid (∀ n : Int, -9223372036854775808 ≤ n → n ≤ 9223372036854775807 → ∀ w, Calls Tryz.prog 28 #[.int .i64 n] w fun e w' => e = .returned (.string ⟨(Lib.itoa n).toArray⟩) ∧ w' = w) := Lib.hid fun n h0 h1 w => digits_any n h0 h1 w
  have HN : Hid (∀ w q, w.heap.size = q → Calls Tryz.prog 35 #[] w fun e w' => e = .returned (.slice (some ⟨q, 0, none⟩) 12 12) ∧ w'.cell? ⟨q, k, none⟩ = some (.string (nameOf k)) ∧ Below w.heap.size w w') := Lib.hid fun w q hq => hq ▸ (dnames_any w).mono fun e w' ⟨h1, h2, h3⟩ => ⟨h1, h2 k hk1 hk2, h3⟩
  obtain ⟨hl1, hl2⟩ := flds_len k (by omega)
  obtain ⟨S, hS⟩ : ∃ S : ByteArray, S = ⟨(shapeB k).toArray⟩ := ⟨_, rfl⟩
  have hSz : S.size = (flds k).length := by rw [hS]; exact hl1
  have hS3 : S.size ≤ 3 := by omega
  have HSH : Hid (∀ w, Calls Tryz.prog 36 #[.int .i64 (k : Int)] w fun e w' => e = .returned (.string S) ∧ Below w.heap.size w w') := Lib.hid fun w => by rw [hS]; exact dshape_any k hk1 hk2 w
  have HIX : Hid (∀ j f, (flds k)[j]? = some f → ∀ h : j < S.size, (S[j]'h).toNat = f.letter) := Lib.hid fun j f hf h => by
    have hx := flds_ix k (by omega) j (by omega)
    rw [hf] at hx
    rw [ba_get S j h _ (by rw [hS]; exact hx), letter_nat]
  have HF : Hid (∀ (f : Fd) (w : World), Calls Tryz.prog 37 #[.int .u8 (f.letter : Int), x.call.v] w fun e w' => e = .returned (.string ⟨(Fd.text x.call f).toArray⟩) ∧ Below w.heap.size w w') := Lib.hid fun f w => dfield_any f x.call w hcl
  have hFT : ∀ f ∈ flds k, (Fd.text x.call f).length ≤ 400 := fun f hf => Fd.text_le (Fd.small_of (hok f (by rw [hci, Int.toNat_natCast]; exact hf)))
  have HFT := Lib.hid hFT
  have HLE := Lib.hid fun n => lineP_le (Lib.itoa x.w) (nameOf k).data.toList x.call (flds k) n hFT
  have HST := Lib.hid (lineP_step (Lib.itoa x.w) (nameOf k).data.toList x.call (flds k))
  have HLB : Hid (lineB x = lineP (Lib.itoa x.w) (nameOf k).data.toList x.call (flds k) S.size) := Lib.hid (by rw [hSz, lineP_all]; unfold lineB; simp [hk, hci])
  have HL0 : Hid (lineP (Lib.itoa x.w) (nameOf k).data.toList x.call (flds k) 0 = Lib.itoa x.w ++ [32] ++ (nameOf k).data.toList) := Lib.hid (by simp [lineP])
  have hlw := Lib.itoa_length_le x.w (by omega) (by omega)
  have hnl := nameOf_le k
  obtain ⟨TW, hTW⟩ : ∃ T : ByteArray, T = ⟨(Lib.itoa x.w).toArray⟩ := ⟨_, rfl⟩
  obtain ⟨TN, hTN⟩ : ∃ T : ByteArray, T = nameOf k := ⟨_, rfl⟩
  have hlwz : TW.size ≤ 21 := by rw [hTW]; exact hlw
  have hnlz : TN.size ≤ 10 := by rw [hTN, ba_size]; exact hnl
  have hx1 : ¬ 9223372036854775807 < TW.size + 1 := by omega
  have hx2 : ¬ 9223372036854775807 < TW.size + 1 + TN.size := by omega
  have HT0 : Hid ((TW ++ ⟨#[32]⟩ ++ TN : ByteArray).data.toList = lineP (Lib.itoa x.w) (nameOf k).data.toList x.call (flds k) 0) := Lib.hid (by rw [HL0.out, hTW, hTN]; simp [ByteArray.data_append])
  have HW1 : Hid (∀ w, Calls Tryz.prog 28 #[.int .i64 x.w] w fun e w' => e = .returned (.string TW) ∧ w' = w) := Lib.hid fun w => by rw [hTW]; exact HD.out x.w (by omega) (by omega) w
  have HNN : Hid (∀ w, Calls Tryz.prog 28 #[.int .i64 x.n] w fun e w' => e = .returned (.string ⟨(Lib.itoa x.n).toArray⟩) ∧ w' = w) := Lib.hid fun w => HD.out x.n (by omega) (by omega) w
  rw [← hTN] at HN
  obtain ⟨wB, hwB⟩ : ∃ wB, wB = (W.alloc (.cells x.cells 27)).alloc (.cells x.call.cells 25) := ⟨_, rfl⟩
  have hz : (W.alloc (.cells x.cells 27)).heap.size = W.heap.size + 1 := World.size_alloc _ _
  have hb0 := (Below.refl W.heap.size W).alloc (Nat.le_refl _) (.cells x.cells 27)
  have hbB : Below W.heap.size W wB := by rw [hwB]; exact hb0.alloc hb0.size _
  have hBz : wB.heap.size = W.heap.size + 2 := by rw [hwB, World.size_alloc, hz]
  have hc0 : ClAt wB (W.heap.size + 1) x.call := by rw [hwB]; exact heap_alloc_at _ _ (by rw [hz])
  have HC : Hid (∀ w, Below wB.heap.size wB w → ClAt w (W.heap.size + 1) x.call ∧ Below W.heap.size W w) := Lib.hid fun w hb => ⟨hc0.go hb (by omega), hbB.trans (hb.mono (by omega))⟩
  obtain ⟨e0, _⟩ := hc0.facts
  rw [hci] at e0
  have HCI := Lib.hid hci
  have HSZ := Lib.hid hSz
  have HB0 := Lib.hid (Below.refl wB.heap.size wB)
  clear hS hSz hl1 hTW hTN hz hb0 hbB hBz hc0 hcl hr1 hrc hok hkk hci HD hFT hr
  unfold Ev.cells Cl.cells at hwB
  unfold Ev.v Ev.cells
  unfold Cl.v at HF
  rw [hk] at hwB ⊢
  clear hk
  go_enter Tryz.func21, Tryz.ntmps21
  go_upto_region 13 with (first | (go_at_call 28; (with_reducible refine (HW1.out _).mono ?_); rintro e w1 ⟨rfl, hw⟩; subst hw) | (go_at_call 28; (with_reducible refine (HNN.out _).mono ?_); rintro e w1 ⟨rfl, hw⟩; subst hw))
  rw [← hwB]
  clear hwB
  go_cut [6] (fun s6 wx => s6 = .string (TW ++ ⟨#[32]⟩ ++ TN) ∧ Hid (Below wB.heap.size wB wx))
  case first =>
    go_region_with (first | (go_at_call 35; refine (HN.out wB.drew wB.heap.size rfl).mono ?_; rintro e w2 ⟨rfl, hnm2, hb2⟩; have hb3 := HB0.out.drew.trans hb2; have d0 := (HC.out _ hb3).1.facts.1; rw [HCI.out] at d0; have HB2 := Lib.hid hb3; clear hb2 hb3))
    all_goals go_wp2_with fail
    all_goals go_meet
    all_goals exact ⟨rfl, HB2⟩
  case rest =>
    obtain ⟨rfl, HBX⟩ := hcut
    have d0 := (HC.out _ HBX.out).1.facts.1
    rw [HCI.out] at d0
    go_wp2_with (go_at_call 36; refine (HSH.out _).mono ?_; rintro e w3 ⟨rfl, hb3⟩; have HB3 := Lib.hid (HBX.out.trans (hb3.mono HBX.out.size)); clear hb3 d0)
    go_loopw [6, 8] (fun v i wr => ∃ (T : ByteArray) (j : Nat), j ≤ S.size ∧ i = .int .i64 j ∧ v = .string T ∧ Hid (T.data.toList = lineP (Lib.itoa x.w) (nameOf k).data.toList x.call (flds k) j) ∧ Hid (Below wB.heap.size wB wr)) (fun _ i _ => S.size - (intOf i).toNat)
    case atStart => exact ⟨_, 0, Nat.zero_le _, rfl, rfl, HT0, HB3⟩
    case round =>
      clear HB3 HT0 hx1 hx2
      obtain ⟨T, j, hj, rfl, rfl, HT, HB⟩ := hrel
      have hTz : T.size ≤ 2000 := by
        rw [ba_size, HT.out]
        have := HLE.out j
        omega
      by_cases hjl : j < S.size
      · obtain ⟨f, hf⟩ : ∃ f, (flds k)[j]? = some f := ⟨_, List.getElem?_eq_getElem (by rw [← HSZ.out]; exact hjl)⟩
        obtain ⟨e0, e1, e2, e3, e4, e5, e6⟩ := (HC.out _ HB.out).1.facts
        have hgn := HIX.out j f hf
        have hln := HFT.out f (List.mem_of_getElem? hf)
        have HSTJ := Lib.hid (HST.out j f hf)
        obtain ⟨FX, hFX⟩ : ∃ X : ByteArray, X = ⟨(Fd.text x.call f).toArray⟩ := ⟨_, rfl⟩
        have hFz : FX.size ≤ 400 := by rw [hFX]; exact hln
        have HTN : Hid ((T ++ ⟨#[32]⟩ ++ FX : ByteArray).data.toList = lineP (Lib.itoa x.w) (nameOf k).data.toList x.call (flds k) (j + 1)) := Lib.hid (by rw [HSTJ.out, ← HT.out, hFX]; simp [ByteArray.data_append])
        have HFF := Lib.hid (HF.out f)
        rw [← hFX] at HFF
        generalize f.letter = L at *
        have j0 : (0 : Int) ≤ (j : Int) := Int.natCast_nonneg _
        have j1 : (j : Int) < (S.size : Int) := by omega
        have hx1 : ¬ 9223372036854775807 < T.size + 1 := by omega
        have hx2 : ¬ 9223372036854775807 < T.size + 1 + FX.size := by omega
        clear hf hFX hln
        go_wp2_with fail
        go_region_held3 (fun w' => w'.cell? ⟨W.heap.size + 1, 0, none⟩ = some (.int .i64 x.call.kind) ∧ w'.cell? ⟨W.heap.size + 1, 1, none⟩ = some (.int .i64 x.call.mode) ∧ w'.cell? ⟨W.heap.size + 1, 2, none⟩ = some (.string x.call.key) ∧ w'.cell? ⟨W.heap.size + 1, 3, none⟩ = some (.string x.call.high) ∧ w'.cell? ⟨W.heap.size + 1, 4, none⟩ = some (.string x.call.val) ∧ w'.cell? ⟨W.heap.size + 1, 5, none⟩ = some (.int .i64 x.call.draw) ∧ w'.cell? ⟨W.heap.size + 1, 6, none⟩ = some (.int .i64 x.call.n)) (first | go_keep | exact (HC.out _ HB5.out).1.facts) ((go_at_call 37; refine (HFF.out _).mono ?_; rintro e w5 ⟨rfl, hb5⟩; have HB5 := Lib.hid (HB.out.drew.trans (hb5.mono HB.out.size)); clear hb5))
        all_goals go_wp2_with fail
        all_goals exact ⟨⟨_, j + 1, by omega, by go_num, rfl, HTN, HB5⟩, by simp [intOf]; omega⟩
      · have hjr : j = S.size := by omega
        have ht := HT.out
        rw [hjr, ← HLB.out] at ht
        have HTE := Lib.hid (ba_mk ht)
        clear ht hjr
        go_wp2_with fail
        go_ret
        exact ⟨congrArg (fun s => Ending.returned (Value.string s)) HTE.out, (HC.out _ HB.out).2⟩
end Go.Proofs.YtkpofjfndokaeaaGreatDoor

/- The document's rule for an event, all kinds; its line, all kinds; its Show: the walk. -/
namespace Go.Proofs.YtkpofjfndokaeaaGreatDoor
open Go.RowKit
set_option linter.unusedVariables false
set_option linter.unusedSimpArgs false

theorem devent_any (x : Ev) (W : World) : Calls Tryz.prog 23 #[x.v] W fun e w' => e = .returned (.bool (revent x)) ∧ Below W.heap.size W w' := by
  by_cases h : 1 ≤ x.kind ∧ x.kind ≤ 5
  · have hk : x.kind = 1 ∨ x.kind = 2 ∨ x.kind = 3 ∨ x.kind = 4 ∨ x.kind = 5 := by omega
    rcases hk with hk | hk | hk | hk | hk
    · exact devent_1 x hk W
    · exact devent_2 x hk W
    · exact devent_3 x hk W
    · exact devent_4 x hk W
    · exact devent_5 x hk W
  · exact devent_none x h W
theorem dright_any (A : Option Addr) (c : Nat) (l : List Ev) (W : World) (hI : Evs W A l) (hl : l.length ≤ 9223372036854775807) :
    Calls Tryz.prog 12 #[.slice A l.length c] W fun e w' => e = .returned (.bool (right l)) ∧ Below W.heap.size W w' := dright_of devent_any A c l W hI hl

set_option maxRecDepth 100000 in
set_option maxHeartbeats 4000000 in
theorem dline_else (x : Ev) (hk : x.kind = 2 ∨ x.kind = 3 ∨ x.kind = 4 ∨ x.kind = 5) (hr : revent x = true) (W : World) : Calls Tryz.prog 21 #[x.v] W fun e w' => e = .returned (.string ⟨(lineB x).toArray⟩) ∧ Below W.heap.size W w' := by
  obtain ⟨_, hw1, hw2, hn1, hn2, ht1, ht2, _⟩ := revent_bounds hr
  have hlw := Lib.itoa_length_le x.w (by omega) (by omega)
  have hln := Lib.itoa_length_le x.n (by omega) (by omega)
  have hlt := Lib.itoa_length_le x.tear (by omega) (by omega)
  have HW1 : Hid (∀ w, Calls Tryz.prog 28 #[.int .i64 x.w] w fun e w' => e = .returned (.string ⟨(Lib.itoa x.w).toArray⟩) ∧ w' = w) := Lib.hid fun w => digits_any x.w (by omega) (by omega) w
  have HNN : Hid (∀ w, Calls Tryz.prog 28 #[.int .i64 x.n] w fun e w' => e = .returned (.string ⟨(Lib.itoa x.n).toArray⟩) ∧ w' = w) := Lib.hid fun w => digits_any x.n (by omega) (by omega) w
  have HTT : Hid (∀ w, Calls Tryz.prog 28 #[.int .i64 x.tear] w fun e w' => e = .returned (.string ⟨(Lib.itoa x.tear).toArray⟩) ∧ w' = w) := Lib.hid fun w => digits_any x.tear (by omega) (by omega) w
  have HB := Lib.hid ((Below.refl W.heap.size W).alloc (Nat.le_refl _) (.cells x.cells 27))
  have HLB : Hid (lineB x = if x.kind = 2 then [115, 116, 101, 112, 32] ++ Lib.itoa x.w ++ [32] ++ Lib.itoa x.n
    else if x.kind = 3 then [114, 117, 110, 32] ++ Lib.itoa x.w
    else if x.kind = 4 then [99, 114, 97, 115, 104, 32] ++ Lib.itoa x.n ++ [32] ++ Lib.itoa x.tear
    else [99, 117, 116, 32] ++ Lib.itoa x.n) := Lib.hid (by unfold lineB; rcases hk with h | h | h | h <;> simp [h])
  clear hr
  unfold Ev.cells at HB
  unfold Ev.v Ev.cells
  have hza : ∀ l : List UInt8, (⟨l.toArray⟩ : ByteArray).size = l.length := fun l => by simp [ByteArray.size]
  rcases hk with hk | hk | hk | hk
  all_goals
    rw [hk] at HB HLB ⊢
    clear hk
    go_enter Tryz.func21, Tryz.ntmps21
    go_wp2_with (first | (go_at_call 28; (with_reducible refine (HW1.out _).mono ?_); rintro e w1 ⟨rfl, hw⟩; subst hw) | (go_at_call 28; (with_reducible refine (HNN.out _).mono ?_); rintro e w1 ⟨rfl, hw⟩; subst hw) | (go_at_call 28; (with_reducible refine (HTT.out _).mono ?_); rintro e w1 ⟨rfl, hw⟩; subst hw))
    go_ret
    exact ⟨by rw [HLB.out]; simp only [← bapp]; rfl, HB.out⟩
theorem dline_any (x : Ev) (hr : revent x = true) (W : World) : Calls Tryz.prog 21 #[x.v] W fun e w' => e = .returned (.string ⟨(lineB x).toArray⟩) ∧ Below W.heap.size W w' := by
  rcases (revent_bounds hr).1 with hk | hk | hk | hk | hk
  · exact dline_1 x hk hr W
  · exact dline_else x (by omega) hr W
  · exact dline_else x (by omega) hr W
  · exact dline_else x (by omega) hr W
  · exact dline_else x (by omega) hr W

set_option maxRecDepth 100000 in
set_option maxHeartbeats 4000000 in
theorem dshow_no (A : Option Addr) (c : Nat) (l : List Ev) (W : World) (hI : Evs W A l) (hl : l.length ≤ 9223372036854775807) (hr : right l = false) :
    Calls Tryz.prog 9 #[.slice A l.length c] W fun e w' => e = .returned (.tuple #[.string ⟨(showR l).1.toArray⟩, .int .i64 (showR l).2]) ∧ Below W.heap.size W w' := by
  have hR := dright_any A c l W hI hl
  rw [hr] at hR
  have hS : showR l = ([], 200) := by unfold showR; simp [hr]
  rw [hS]
  clear hI hr hS
  go_enter Tryz.func9, Tryz.ntmps9
  go_wp2_with (first | (go_at_call 12; refine hR.mono ?_; rintro e w2 ⟨rfl, hb2⟩))
  go_ret2
  exact ⟨rfl, hb2⟩

set_option maxRecDepth 100000 in
set_option maxHeartbeats 4000000 in
theorem dshow_yes (A : Option Addr) (c : Nat) (l : List Ev) (W : World) (hI : Evs W A l) (hl : l.length ≤ 9223372036854775807) (hr : right l = true) :
    Calls Tryz.prog 9 #[.slice A l.length c] W fun e w' => e = .returned (.tuple #[.string ⟨(showR l).1.toArray⟩, .int .i64 (showR l).2]) ∧ Below W.heap.size W w' := by
  have hR := dright_any A c l W hI hl
  rw [hr] at hR
  obtain ⟨i0, hi, hz0, hz1, hz2⟩ := info_parts (show (Tryz.prog.info? 5).map (fun i => (i.zero, i.size, i.bytes)) = some (some (.int .u8 0), 1, 1) by kernel_rfl)
  have HI := Lib.hid hI
  have HLN : Hid (∀ x ∈ l, revent x = true) := Lib.hid (by unfold right at hr; simp only [Bool.and_eq_true, List.all_eq_true] at hr; exact hr.1)
  have hlen : l.length ≤ 4096 := by unfold right at hr; simp only [Bool.and_eq_true, decide_eq_true_eq] at hr; exact hr.2
  have HS : Hid (showR l = if (showB l).length ≤ 65536 then (showB l, 0) else ([], 200)) := Lib.hid (by unfold showR; rw [hr]; simp)
  have HLINE : Hid (∀ x, revent x = true → ∀ w, Calls Tryz.prog 21 #[Ev.v x] w fun e w' => e = .returned (.string ⟨(lineB x).toArray⟩) ∧ Below w.heap.size w w') := Lib.hid fun x h w => dline_any x h w
  clear hI hr
  go_enter Tryz.func9, Tryz.ntmps9
  go_wp2_with (first | (go_at_call 12; refine hR.mono ?_; rintro e w2 ⟨rfl, hb2⟩))
  have HB2 := Lib.hid hb2
  have HT0 := Lib.hid (TS.start w2)
  have hWb : W.heap.size ≤ w2.heap.size := hb2.size
  clear hb2 hR
  go_loopw [5, 6] (fun v i wr => ∃ n : Nat, n ≤ l.length ∧ i = .int .i64 n ∧ Hid (TS w2 (showB (l.take n)) v wr)) (fun _ i _ => l.length - (intOf i).toNat)
  case atStart => exact ⟨0, Nat.zero_le _, rfl, HT0⟩
  case round =>
    clear HT0
    obtain ⟨n, hn, rfl, HT⟩ := hrel
    have HB : Hid (Below W.heap.size W wr) := Lib.hid (HB2.out.trans (HT.out.below.mono hWb))
    by_cases hlt : n < l.length
    · obtain ⟨x, hx⟩ : ∃ x, l[n]? = some x := ⟨l[n], List.getElem?_eq_getElem hlt⟩
      obtain ⟨ad, p, rfl, hp, hpb, c0, c1, c2, c3, c4, c5, c6, c7, c8, c9, c10⟩ := (HI.out.later HB.out (Nat.le_refl _)).facts hx
      have hbkp : (ad.add (n * 11)) = p := hp.symm
      have hrx := HLN.out x (List.mem_of_getElem? hx)
      have hline := HLINE.out x hrx
      unfold Ev.v Ev.cells at hline
      have hsn := showB_snoc l n hlt
      rw [show l[n] = x from Option.some.inj ((List.getElem?_eq_getElem hlt).symm.trans hx)] at hsn
      have HSN := Lib.hid hsn
      have hll := lineB_le hrx
      have hsl : (showB (l.take n)).length ≤ 4096 * 2006 := Nat.le_trans (showB_le _ (fun y hy => HLN.out y (List.mem_of_mem_take hy))) (Nat.mul_le_mul_right _ (by rw [List.length_take]; omega))
      generalize lineB x = lx at *
      generalize showB (l.take n) = sx at *
      obtain ⟨TX, hTX⟩ : ∃ T : ByteArray, T = ⟨lx.toArray⟩ := ⟨_, rfl⟩
      rw [← hTX] at hline
      have hzl : TX.size = lx.length := by rw [hTX]; rfl
      have hza : TX.size ≤ 2005 := by omega
      have hdl : TX.data.toList = lx := by rw [hTX]
      have HZL := Lib.hid hzl
      have HDL := Lib.hid hdl
      obtain ⟨Av, cv, rfl⟩ := HT.out.v
      clear hsn hrx hx hp hTX hzl hdl
      go_wp2_with (first | (go_at_call 21; refine (hline _).mono ?_; rintro e w3 ⟨rfl, hb3⟩; have HT3 := Lib.hid (HT.out.later hb3); have hown3 := HT3.out.own; have hsz3 := HT3.out.below.size; clear hb3) | (at_builtin; refine Lib.wpList_append_own_string _ rfl _ _ 47 9 rfl w2.heap.size 5 i0 Tryz.underlying47 Tryz.underlying9 hi hz0 hz1 hz2 _ _ _ rfl hown3 TX rfl (by unfold maxLen; omega) (by omega) hsz3 ?_; intro v4 w4 hown4 hg4 hiff4; have HT4 := Lib.hid (HT3.out.appends TX _ HDL.out rfl rfl hown4 hg4); have hacl : (sx ++ lx).length = sx.length + TX.size := (by rw [List.length_append, HZL.out]); obtain ⟨a4, ha4⟩ : ∃ x, x = sx ++ lx := ⟨_, rfl⟩; rw [← ha4] at HT4 hacl; have hal4 : a4.length ≤ 10000000 := (by omega); have HA4 := Lib.hid ha4; clear hacl ha4 hown4 hg4 hiff4 hown3; obtain ⟨A4, cv4, hv4⟩ := HT4.out.v; subst hv4; have hown5 := HT4.out.own; have hsz5 := HT4.out.below.size) | (at_builtin; refine wpList_append_own _ rfl _ _ 47 rfl w2.heap.size 5 i0 (.int .u8 0) 1 1 Tryz.underlying47 hi hz0 hz1 hz2 rfl (by decide) _ _ _ rfl (hown5.alloc _) ⟨w4.heap.size, 0, none⟩ 1 1 [.int .u8 10] rfl rfl (cell_one_new _ _ _) (by simp [Value.oneCell']) (by unfold maxLen; omega) (by omega) (by rw [World.size_alloc]; omega) ?_; intro v6 w6 hown6 hg6 hiff6; have HT6 := Lib.hid ((HT4.out.alloc _).append 10 rfl rfl hown6 hg6); clear hown6 hg6 hiff6))
      refine ⟨⟨n + 1, by omega, by go_num, Lib.hid ?_⟩, by simp [intOf]; omega⟩
      rw [HSN.out, ← List.append_assoc, ← HA4.out]
      exact HT6.out
    · have hnl : n = l.length := by omega
      obtain ⟨Av, cv, rfl⟩ := HT.out.v
      have ht := HT.out
      rw [hnl, List.take_length] at ht
      rw [hnl, List.take_length]
      have hcv := ht.string
      clear ht hnl HT
      by_cases h6 : (showB l).length ≤ 65536
      · have HE : Hid (showR l = (showB l, 0)) := Lib.hid (by rw [HS.out, if_pos h6])
        generalize showB l = sx at *
        go_wp2_with fail
        go_ret2
        exact ⟨by rw [HE.out]; rfl, HB.out⟩
      · have HE : Hid (showR l = ([], 200)) := Lib.hid (by rw [HS.out, if_neg h6])
        generalize showB l = sx at *
        go_wp2_with fail
        go_ret2
        exact ⟨by rw [HE.out]; rfl, HB.out⟩
theorem dshow_any (A : Option Addr) (c : Nat) (l : List Ev) (W : World) (hI : Evs W A l) (hl : l.length ≤ 9223372036854775807) :
    Calls Tryz.prog 9 #[.slice A l.length c] W fun e w' => e = .returned (.tuple #[.string ⟨(showR l).1.toArray⟩, .int .i64 (showR l).2]) ∧ Below W.heap.size W w' := by
  cases hr : right l with
  | true => exact dshow_yes A c l W hI hl hr
  | false => exact dshow_no A c l W hI hl hr
end Go.Proofs.YtkpofjfndokaeaaGreatDoor

/- ScriptShows: the walk. -/
namespace Go.Proofs.YtkpofjfndokaeaaGreatDoor
open Go.RowKit
set_option linter.unusedVariables false
set_option linter.unusedSimpArgs false

theorem evCells_get : ∀ (l : List Ev) (k : Nat) (u : Value), (evCells l)[k]? = some u → ∃ j i x, k = j * 11 + i ∧ l[j]? = some x ∧ ∃ hi : i < x.cells.size, x.cells[i] = u
  | [], k, u, h => by simp [evCells] at h
  | y :: l, k, u, h => by
    have h11 : y.cells.toList.length = 11 := rfl
    change (y.cells.toList ++ evCells l)[k]? = some u at h
    by_cases hk : k < 11
    · rw [List.getElem?_append_left (by omega)] at h
      refine ⟨0, k, y, by omega, rfl, hk, ?_⟩
      rw [Array.getElem?_toList, Array.getElem?_eq_getElem (show k < y.cells.size from hk)] at h
      exact Option.some.inj h
    · rw [List.getElem?_append_right (by omega), h11] at h
      obtain ⟨j, i, x, hx, hl, hi⟩ := evCells_get l (k - 11) u h
      exact ⟨j + 1, i, x, by omega, by simpa using hl, hi⟩
theorem Evs.reads {w : World} {A : Option Addr} {l : List Ev} (h : Evs w A l) : Reads w w.heap.size 11 A l.length (evCells l) := by
  refine ⟨evCells_length l, fun h0 => ?_⟩
  obtain ⟨ad, hA, hb, _⟩ := h 0 l[0] (List.getElem?_eq_getElem h0)
  refine ⟨ad, hA, hb, fun k u hu => ?_⟩
  obtain ⟨j, i, x, rfl, hl, hi, hx⟩ := evCells_get l k u hu
  obtain ⟨ad', hA', _, hc⟩ := h j x hl
  rw [hA] at hA'
  injection hA' with hA'
  subst hA'
  rw [hc i hi, hx]
theorem evCells_one (l : List Ev) : ∀ u ∈ evCells l, u.oneCell' = true := by
  intro u hu
  unfold evCells at hu
  obtain ⟨x, _, hx⟩ := List.mem_flatMap.1 hu
  simp only [Ev.cells, List.mem_cons, List.not_mem_nil, or_false] at hx
  rcases hx with rfl | rfl | rfl | rfl | rfl | rfl | rfl | rfl | rfl | rfl | rfl <;> rfl
theorem Evs.front {w : World} {A : Option Addr} {l m : List Ev} (h : Evs w A (l ++ m)) : Evs w A l := fun j x hj => h j x (by
  rw [List.getElem?_append_left (List.getElem?_eq_some_iff.1 hj).1]; exact hj)
theorem ES.fresh {W w : World} (hb : Below W.heap.size W w) : ES W w.heap.size [] (.slice (some ⟨w.heap.size, 0, none⟩) 0 0) (w.alloc (.cells #[] 27)) :=
  ⟨World.ownsRow_lit w #[] 0 (Nat.le_refl _) (by unfold maxLen; omega) rfl, hb.alloc hb.size _⟩
theorem ES.add {W : World} {base : Nat} {acc l : List Ev} {v : Value} {wr w' : World} (h : ES W base acc v wr) (hbs : W.heap.size ≤ base) {v' : Value} {n : Nat} (hn : n = acc.length + l.length) {cs : List Value} (hc : cs = evCells acc ++ evCells l)
    (hown : w'.ownsRow base 27 11 v' n cs) (hg : wr.grownBy w' v.ownBlock) : ES W base (acc ++ l) v' w' := by
  subst hn; subst hc
  refine ⟨?_, h.below.grown hg h.below.size (fun k e => Nat.le_trans hbs (h.own.lt k e).1)⟩
  have e : evCells (acc ++ l) = evCells acc ++ evCells l := by unfold evCells; rw [List.flatMap_append]
  rw [e, List.length_append]
  exact hown
/-- The event that marks the end. -/
def Ev.mark : Ev := ⟨77, 0, Cl.zero 0, 0, 0⟩
theorem ES.marked {W : World} {base : Nat} {l : List Ev} {v : Value} {wr : World} (h : ES W base (l ++ [Ev.mark]) v wr) (hW : W.heap.size ≤ base) : ∃ g c, v = .slice (some ⟨g, 0, none⟩) (l.length + 1) c ∧ l.length + 1 ≤ c ∧ Hid (∀ w, Below wr.heap.size wr w → Evs w (some ⟨g, 0, none⟩) l ∧ w.cell? ⟨g, l.length * 11, none⟩ = some (.int .i64 77)) := by
  obtain ⟨A, c, hv, hc, hev, hbl⟩ := h.row
  rw [List.length_append] at hv hc
  rcases h.own.2 with ⟨h1, h2⟩ | ⟨g, cap, cur, hv2, _⟩
  · simp at h2
  · rw [hv] at hv2
    simp only [Value.slice.injEq] at hv2
    obtain ⟨rfl, _, rfl⟩ := hv2
    refine ⟨g, c, hv, hc, Lib.hid fun w hb => ?_⟩
    have h2 := hev.later hb (Nat.le_refl _)
    refine ⟨h2.front, ?_⟩
    obtain ⟨ad, hA, _, hcell⟩ := h2 l.length Ev.mark (by simp)
    injection hA with hA
    subst hA
    have := hcell 0 (by decide)
    have e : (⟨g, 0, none⟩ : Addr).add (l.length * 11 + 0) = ⟨g, l.length * 11, none⟩ := by unfold Addr.add; split <;> simp_all
    rw [e] at this
    exact this

theorem Evs.one {w : World} {b : Nat} {x : Ev} (h : EvAt w b x) : Evs w (some ⟨b, 0, none⟩) [x] := by
  intro j y hj
  have hj0 : j = 0 := by
    have := (List.getElem?_eq_some_iff.1 hj).1
    simpa using this
  subst hj0
  simp only [List.getElem?_cons_zero, Option.some.injEq] at hj
  subst hj
  refine ⟨_, rfl, h.lt, fun i hi => ?_⟩
  have e : (⟨b, 0, none⟩ : Addr).add (0 * 11 + i) = ⟨b, i, none⟩ := by unfold Addr.add; split <;> simp_all
  rw [e]
  unfold EvAt at h
  unfold World.cell?
  simp only [h]
  exact Array.getElem?_eq_getElem hi
theorem Reads.mark (w : World) : Reads (w.alloc (.cells Ev.mark.cells 27)) (w.heap.size + 1) 11 (some ⟨w.heap.size, 0, none⟩) 1 (evCells [Ev.mark]) := by
  have := (Evs.one (EvAt.fresh w Ev.mark)).reads
  rw [World.size_alloc] at this
  exact this

set_option maxRecDepth 100000 in
set_option maxHeartbeats 20000000 in
theorem shows_any (A : Option Addr) (cap : Nat) (l : List Ev) (W : World) (hW : Sp W) (hI : Evs W A l) (hl : l.length * 112 ≤ 140737488351232) :
    Calls Tryz.prog 3 #[.slice A l.length cap] W fun e w' => e = .returned (.bool true) ∧ Below W.heap.size W w' := by
  obtain ⟨i0, hi, hy0, hy1, hy2⟩ := info_parts (show (Tryz.prog.info? 27).map (fun i => (i.zero, i.size, i.bytes)) = some (some Ev.zero.v, 11, 112) by kernel_rfl)
  have hl2 : l.length ≤ 1256584717422 := by omega
  have HSN : Hid (Calls Tryz.prog 7 #[] W fun e w' => e = .returned (.bool true) ∧ Below W.heap.size W w') := Lib.hid (shown_any W hW)
  obtain ⟨T, hT⟩ : ∃ T : ByteArray, T = ⟨(showR l).1.toArray⟩ := ⟨_, rfl⟩
  obtain ⟨C, hC⟩ : ∃ C, C = (showR l).2 := ⟨_, rfl⟩
  obtain ⟨R, hR⟩ : ∃ R, R = right l := ⟨_, rfl⟩
  have HS8 : Hid (∀ (B : Option Addr) (c : Nat) (w : World), Below W.heap.size W w → Evs w B l → Calls Tryz.prog 8 #[.slice B l.length c] w fun e w' => e = .returned (.tuple #[.string T, .int .i64 C]) ∧ Below w.heap.size w w' ∧ Below W.heap.size W w') := Lib.hid fun B c w hb h => by
    rw [hT, hC]
    exact (show_any B c l w (hW.later hb).st h (by omega)).mono fun e w' ⟨he, hb2⟩ => ⟨he, hb2, hb.trans (hb2.mono hb.size)⟩
  have HS9 : Hid (∀ (w : World), Below W.heap.size W w → Calls Tryz.prog 9 #[.slice A l.length cap] w fun e w' => e = .returned (.tuple #[.string T, .int .i64 C]) ∧ Below w.heap.size w w' ∧ Below W.heap.size W w') := Lib.hid fun w hb => by
    rw [hT, hC]
    exact (dshow_any A cap l w (hI.later hb (Nat.le_refl _)) (by omega)).mono fun e w' ⟨he, hb2⟩ => ⟨he, hb2, hb.trans (hb2.mono hb.size)⟩
  have HR10 : Hid (∀ (B : Option Addr) (c : Nat) (w : World), Below W.heap.size W w → Evs w B l → Calls Tryz.prog 10 #[.slice B l.length c] w fun e w' => e = .returned (.bool R) ∧ Below w.heap.size w w' ∧ Below W.heap.size W w') := Lib.hid fun B c w hb h => by
    rw [hR]
    exact (right_any B c l w h (by omega)).mono fun e w' ⟨he, hb2⟩ => ⟨he, hb2, hb.trans (hb2.mono hb.size)⟩
  have HR12 : Hid (∀ (w : World), Below W.heap.size W w → Calls Tryz.prog 12 #[.slice A l.length cap] w fun e w' => e = .returned (.bool R) ∧ Below w.heap.size w w' ∧ Below W.heap.size W w') := Lib.hid fun w hb => by
    rw [hR]
    exact (dright_any A cap l w (hI.later hb (Nat.le_refl _)) (by omega)).mono fun e w' ⟨he, hb2⟩ => ⟨he, hb2, hb.trans (hb2.mono hb.size)⟩
  have HS11 : Hid (∀ (B : Option Addr) (c : Nat) (w : World), Below W.heap.size W w → Evs w B l → Calls Tryz.prog 11 #[.slice B l.length c, .slice A l.length cap] w fun e w' => e = .returned (.bool true) ∧ Below w.heap.size w w' ∧ Below W.heap.size W w') := Lib.hid fun B c w hb h => by
    refine (same_any B A c cap l l w h (hI.later hb (Nat.le_refl _)) (by omega) (by omega)).mono fun e w' ⟨he, hb2⟩ => ⟨?_, hb2, hb.trans (hb2.mono hb.size)⟩
    rw [he, decide_eq_true rfl]
  have HRD : Hid (∀ w, Below W.heap.size W w → Reads w w.heap.size 11 A l.length (evCells l)) := Lib.hid fun w hb => (hI.later hb (Nat.le_refl _)).reads
  have HONE := Lib.hid (evCells_one l)
  have HON1 := Lib.hid (evCells_one [Ev.mark])
  have HMK : Hid ((Ev.mark).cells.toList = evCells [Ev.mark]) := Lib.hid (by unfold evCells; simp)
  clear hW hI hT hC hR
  go_enter Tryz.func3, Tryz.ntmps3
  go_wp2_with (first
    | (go_at_call 7; refine HSN.out.mono ?_; rintro e w1 ⟨rfl, hb1⟩; have HB1 := Lib.hid hb1; have HES1 := Lib.hid (ES.fresh (Below.refl w1.heap.size w1)); have hown1 : (w1.alloc (.cells #[] 27)).ownsRow w1.heap.size 27 11 (.slice (some ⟨w1.heap.size, 0, none⟩) 0 0) 0 [] := HES1.out.own; clear hb1 HSN)
    | (at_builtin; refine wpList_append_any _ rfl _ _ 22 rfl w1.heap.size 27 i0 Ev.zero.v 11 112 Tryz.underlying22 hi hy0 hy1 hy2 rfl (by decide) _ _ _ rfl hown1 _ _ l.length _ (evCells l) rfl (HRD.out _ (HB1.out.alloc HB1.out.size _)) HONE.out (by unfold maxLen; omega) (by omega) (by rw [World.size_alloc]; omega) ?_; intro v2 w2 hown2 hg2 hx2; have HES2 : Hid (ES w1 w1.heap.size l v2 w2) := Lib.hid (HES1.out.add (Nat.le_refl _) rfl rfl hown2 hg2); clear hown2 hg2 hx2 hown1; obtain ⟨A2, c2, hv2⟩ := HES2.out.v; subst hv2; have hown3 := HES2.out.own; have hsz2 := HES2.out.below.size)
    | (at_builtin; refine wpList_append_any _ rfl _ _ 22 rfl w1.heap.size 27 i0 Ev.zero.v 11 112 Tryz.underlying22 hi hy0 hy1 hy2 rfl (by decide) _ _ _ rfl (hown3.alloc _) _ _ 1 _ (evCells [Ev.mark]) rfl (Reads.mark w2) HON1.out (by unfold maxLen; omega) (by omega) (by rw [World.size_alloc]; omega) ?_; intro v3 w3 hown4 hg3 hx3; have HES3 := Lib.hid ((HES2.out.alloc (.cells Ev.mark.cells 27)).add (l := [Ev.mark]) (Nat.le_refl _) rfl rfl hown4 hg3); clear hown4 hg3 hx3 hown3; have HB3 := Lib.hid (HB1.out.trans (HES3.out.below.mono HB1.out.size)); obtain ⟨g, cg, hv3, hcg, HM⟩ := HES3.out.marked (Nat.le_refl _); subst hv3; have hcl : l.length ≤ cg := (by omega); have HX3 := Lib.hid (Below.refl w3.heap.size w3))
    | (go_at_call 8; refine (HS8.out _ _ w3 HB3.out (HM.out w3 HX3.out).1).mono ?_; rintro e w4 ⟨rfl, hx4, hb4⟩; have HX4 := Lib.hid hx4; have HB4 := Lib.hid hb4; clear hx4 hb4 HS8)
    | (go_at_call 9; refine (HS9.out w4 HB4.out).mono ?_; rintro e w5 ⟨rfl, hx5, hb5⟩; have HX5 := Lib.hid (HX4.out.trans (hx5.mono HX4.out.size)); have HB5 := Lib.hid hb5; clear hx5 hb5 HS9)
    | (go_at_call 10; refine (HR10.out _ _ w5 HB5.out (HM.out w5 HX5.out).1).mono ?_; rintro e w6 ⟨rfl, hx6, hb6⟩; have HX6 := Lib.hid (HX5.out.trans (hx6.mono HX5.out.size)); have HB6 := Lib.hid hb6; clear hx6 hb6 HR10)
    | (go_at_call 11; refine (HS11.out _ _ w6 HB6.out (HM.out w6 HX6.out).1).mono ?_; rintro e w7 ⟨rfl, hx7, hb7⟩; have HX7 := Lib.hid (HX6.out.trans (hx7.mono HX6.out.size)); have HB7 := Lib.hid hb7; clear hx7 hb7 HS11)
    | (go_at_call 12; refine (HR12.out w7 HB7.out).mono ?_; rintro e w8 ⟨rfl, hx8, hb8⟩; have HX8 := Lib.hid (HX7.out.trans (hx8.mono HX7.out.size)); have HB8 := Lib.hid hb8; have c77 := (HM.out w8 HX8.out).2; clear hx8 hb8 HR12))
  go_ret
  exact ⟨rfl, HB8.out⟩
end Go.Proofs.YtkpofjfndokaeaaGreatDoor
