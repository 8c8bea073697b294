/- script.rightEvent, kind by kind (text printed by wip/tools/mkrevent.py). -/
import Derived.Test.YtkpofjfndokaeaaGreatDoorA7
namespace Go.Proofs.YtkpofjfndokaeaaGreatDoor
open Go.RowKit
set_option linter.unusedVariables false
set_option linter.unusedSimpArgs false
set_option maxRecDepth 100000 in
set_option maxHeartbeats 16000000 in
theorem revent_4 (x : Ev) (hk : x.kind = 4) (W : World) : Calls Tryz.prog 22 #[x.v] W fun e w' => e = .returned (.bool (revent x)) ∧ Below W.heap.size W w' := by
  have hb0 := (Below.refl W.heap.size W).alloc (Nat.le_refl _) (.cells x.cells 27)
  have hxa := EvAt.fresh W x
  have heql := fun w => eql_ev x (Ev.bare 4 0 x.n x.tear) w
  have hE : revent x = (decide (0 ≤ x.n) && decide (x.n ≤ 2147483647) && decide (0 ≤ x.tear) && decide (x.tear ≤ 2147483647) && decide (x = Ev.bare 4 0 x.n x.tear)) := by unfold revent workerB; simp [hk, Bool.and_assoc]
  rw [hE]
  generalize decide (x = Ev.bare 4 0 x.n x.tear) = B at *
  unfold Ev.v Ev.bare Ev.cells Cl.zero at heql
  rw [hk] at heql
  simp only at heql
  clear hxa
  unfold Ev.v Ev.cells
  unfold Ev.cells at hb0
  rw [hk]
  rw [hk] at hb0
  have HB := Lib.hid hb0
  clear hE hb0
  by_cases h0 : 0 ≤ x.n
  · by_cases h1 : x.n ≤ 2147483647
    · by_cases h2 : 0 ≤ x.tear
      · by_cases h3 : x.tear ≤ 2147483647
        · cases B with
          | false =>
            have hv : (decide (0 ≤ x.n) && decide (x.n ≤ 2147483647) && decide (0 ≤ x.tear) && decide (x.tear ≤ 2147483647) && false) = false := by simp [h0, h1, h2, h3, Bool.and_false]
            rw [hv]
            clear hv
            go_enter Tryz.func22, Tryz.ntmps22
            go_wp2
            all_goals go_ret
            all_goals exact ⟨rfl, HB.out⟩
          | true =>
            have hv : (decide (0 ≤ x.n) && decide (x.n ≤ 2147483647) && decide (0 ≤ x.tear) && decide (x.tear ≤ 2147483647) && true) = true := by simp [h0, h1, h2, h3, Bool.and_true]
            rw [hv]
            clear hv
            go_enter Tryz.func22, Tryz.ntmps22
            go_wp2
            all_goals go_ret
            all_goals exact ⟨rfl, HB.out⟩
        · have hv : (decide (0 ≤ x.n) && decide (x.n ≤ 2147483647) && decide (0 ≤ x.tear) && decide (x.tear ≤ 2147483647) && B) = false := by simp [h0, h1, h2, h3]
          rw [hv]
          clear hv
          go_enter Tryz.func22, Tryz.ntmps22
          go_wp2
          all_goals go_ret
          all_goals exact ⟨rfl, HB.out⟩
      · have hv : (decide (0 ≤ x.n) && decide (x.n ≤ 2147483647) && decide (0 ≤ x.tear) && decide (x.tear ≤ 2147483647) && B) = false := by simp [h0, h1, h2]
        rw [hv]
        clear hv
        go_enter Tryz.func22, Tryz.ntmps22
        go_wp2
        all_goals go_ret
        all_goals exact ⟨rfl, HB.out⟩
    · have hv : (decide (0 ≤ x.n) && decide (x.n ≤ 2147483647) && decide (0 ≤ x.tear) && decide (x.tear ≤ 2147483647) && B) = false := by simp [h0, h1]
      rw [hv]
      clear hv
      go_enter Tryz.func22, Tryz.ntmps22
      go_wp2
      all_goals go_ret
      all_goals exact ⟨rfl, HB.out⟩
  · have hv : (decide (0 ≤ x.n) && decide (x.n ≤ 2147483647) && decide (0 ≤ x.tear) && decide (x.tear ≤ 2147483647) && B) = false := by simp [h0]
    rw [hv]
    clear hv
    go_enter Tryz.func22, Tryz.ntmps22
    go_wp2
    all_goals go_ret
    all_goals exact ⟨rfl, HB.out⟩

set_option maxRecDepth 100000 in
set_option maxHeartbeats 16000000 in
theorem revent_5 (x : Ev) (hk : x.kind = 5) (W : World) : Calls Tryz.prog 22 #[x.v] W fun e w' => e = .returned (.bool (revent x)) ∧ Below W.heap.size W w' := by
  have hb0 := (Below.refl W.heap.size W).alloc (Nat.le_refl _) (.cells x.cells 27)
  have hxa := EvAt.fresh W x
  have heql := fun w => eql_ev x (Ev.bare 5 0 x.n 0) w
  have hE : revent x = (decide (0 ≤ x.n) && decide (x.n ≤ 65536) && decide (x = Ev.bare 5 0 x.n 0)) := by unfold revent workerB; simp [hk, Bool.and_assoc]
  rw [hE]
  generalize decide (x = Ev.bare 5 0 x.n 0) = B at *
  unfold Ev.v Ev.bare Ev.cells Cl.zero at heql
  rw [hk] at heql
  simp only at heql
  clear hxa
  unfold Ev.v Ev.cells
  unfold Ev.cells at hb0
  rw [hk]
  rw [hk] at hb0
  have HB := Lib.hid hb0
  clear hE hb0
  by_cases h0 : 0 ≤ x.n
  · by_cases h1 : x.n ≤ 65536
    · cases B with
      | false =>
        have hv : (decide (0 ≤ x.n) && decide (x.n ≤ 65536) && false) = false := by simp [h0, h1, Bool.and_false]
        rw [hv]
        clear hv
        go_enter Tryz.func22, Tryz.ntmps22
        go_wp2
        all_goals go_ret
        all_goals exact ⟨rfl, HB.out⟩
      | true =>
        have hv : (decide (0 ≤ x.n) && decide (x.n ≤ 65536) && true) = true := by simp [h0, h1, Bool.and_true]
        rw [hv]
        clear hv
        go_enter Tryz.func22, Tryz.ntmps22
        go_wp2
        all_goals go_ret
        all_goals exact ⟨rfl, HB.out⟩
    · have hv : (decide (0 ≤ x.n) && decide (x.n ≤ 65536) && B) = false := by simp [h0, h1]
      rw [hv]
      clear hv
      go_enter Tryz.func22, Tryz.ntmps22
      go_wp2
      all_goals go_ret
      all_goals exact ⟨rfl, HB.out⟩
  · have hv : (decide (0 ≤ x.n) && decide (x.n ≤ 65536) && B) = false := by simp [h0]
    rw [hv]
    clear hv
    go_enter Tryz.func22, Tryz.ntmps22
    go_wp2
    all_goals go_ret
    all_goals exact ⟨rfl, HB.out⟩
end Go.Proofs.YtkpofjfndokaeaaGreatDoor
