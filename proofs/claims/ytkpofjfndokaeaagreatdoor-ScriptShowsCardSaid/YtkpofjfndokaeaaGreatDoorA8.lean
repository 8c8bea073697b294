/- script.rightEvent, kind by kind (text printed by wip/tools/mkrevent.py). -/
import Derived.Test.YtkpofjfndokaeaaGreatDoorA7
namespace Go.Proofs.YtkpofjfndokaeaaGreatDoor
open Go.RowKit
set_option linter.unusedVariables false
set_option linter.unusedSimpArgs false
set_option maxRecDepth 100000 in
set_option maxHeartbeats 16000000 in
theorem revent_1 (x : Ev) (hk : x.kind = 1) (W : World) : Calls Tryz.prog 22 #[x.v] W fun e w' => e = .returned (.bool (revent x)) ∧ Below W.heap.size W w' := by
  have hb0 := (Below.refl W.heap.size W).alloc (Nat.le_refl _) (.cells x.cells 27)
  have hxa := EvAt.fresh W x
  have HRC : Hid (∀ w, Calls Tryz.prog 38 #[x.call.v] w fun e w' => e = .returned (.bool (rcall x.call)) ∧ Below w.heap.size w w') := Lib.hid fun w => rightCall_any x.call w
  have hE : revent x = (decide (0 ≤ x.w) && decide (x.w < 16) && rcall x.call && (x.n == 0) && (x.tear == 0)) := by unfold revent workerB; simp [hk, Bool.and_assoc]
  rw [hE]
  unfold Cl.v at HRC
  generalize rcall x.call = R at *
  have HX : Hid (∀ w', Below (W.heap.size + 1) (W.alloc (.cells x.cells 27)) w' → EvAt w' W.heap.size x) := Lib.hid fun w' hb => (hb.block _ (Nat.lt_succ_self _)).trans hxa
  clear hxa
  unfold Ev.v Ev.cells
  unfold Ev.cells at hb0
  rw [hk]
  rw [hk] at hb0
  have HB := Lib.hid hb0
  clear hE hb0
  unfold Ev.cells at HX
  rw [hk] at HX
  by_cases h0 : 0 ≤ x.w
  · by_cases h1 : x.w < 16
    · cases R with
      | false =>
        have hv : (decide (0 ≤ x.w) && decide (x.w < 16) && false && (x.n == 0) && (x.tear == 0)) = false := by simp [h0, h1, Bool.and_false]
        rw [hv]
        clear hv
        go_enter Tryz.func22, Tryz.ntmps22
        go_wp2_with (first | (go_at_call 38; refine (HRC.out _).mono ?_; rintro e w1 ⟨rfl, hb1⟩; rw [World.size_alloc] at hb1; have HB1 := Lib.hid hb1; clear hb1; obtain ⟨c0, c1, c2, c3, c4, c5, c6, c7, c8, c9, c10⟩ := (HX.out _ HB1.out).facts; rw [hk] at c0))
        all_goals go_ret
        all_goals exact ⟨rfl, HB.out.trans (HB1.out.mono (Nat.le_succ _))⟩
      | true =>
        cases h3 : (x.n == 0) with
        | false =>
          have hv : (decide (0 ≤ x.w) && decide (x.w < 16) && true && false && (x.tear == 0)) = false := by simp [h0, h1, Bool.and_false]
          rw [hv]
          clear hv
          go_enter Tryz.func22, Tryz.ntmps22
          go_wp2_with (first | (go_at_call 38; refine (HRC.out _).mono ?_; rintro e w1 ⟨rfl, hb1⟩; rw [World.size_alloc] at hb1; have HB1 := Lib.hid hb1; clear hb1; obtain ⟨c0, c1, c2, c3, c4, c5, c6, c7, c8, c9, c10⟩ := (HX.out _ HB1.out).facts; rw [hk] at c0))
          all_goals go_ret
          all_goals exact ⟨rfl, HB.out.trans (HB1.out.mono (Nat.le_succ _))⟩
        | true =>
          cases h4 : (x.tear == 0) with
          | false =>
            have hv : (decide (0 ≤ x.w) && decide (x.w < 16) && true && true && false) = false := by simp [h0, h1, Bool.and_false]
            rw [hv]
            clear hv
            go_enter Tryz.func22, Tryz.ntmps22
            go_wp2_with (first | (go_at_call 38; refine (HRC.out _).mono ?_; rintro e w1 ⟨rfl, hb1⟩; rw [World.size_alloc] at hb1; have HB1 := Lib.hid hb1; clear hb1; obtain ⟨c0, c1, c2, c3, c4, c5, c6, c7, c8, c9, c10⟩ := (HX.out _ HB1.out).facts; rw [hk] at c0))
            all_goals go_ret
            all_goals exact ⟨rfl, HB.out.trans (HB1.out.mono (Nat.le_succ _))⟩
          | true =>
            have hv : (decide (0 ≤ x.w) && decide (x.w < 16) && true && true && true) = true := by simp [h0, h1, Bool.and_true]
            rw [hv]
            clear hv
            go_enter Tryz.func22, Tryz.ntmps22
            go_wp2_with (first | (go_at_call 38; refine (HRC.out _).mono ?_; rintro e w1 ⟨rfl, hb1⟩; rw [World.size_alloc] at hb1; have HB1 := Lib.hid hb1; clear hb1; obtain ⟨c0, c1, c2, c3, c4, c5, c6, c7, c8, c9, c10⟩ := (HX.out _ HB1.out).facts; rw [hk] at c0))
            all_goals go_ret
            all_goals exact ⟨rfl, HB.out.trans (HB1.out.mono (Nat.le_succ _))⟩
    · have hv : (decide (0 ≤ x.w) && decide (x.w < 16) && R && (x.n == 0) && (x.tear == 0)) = false := by simp [h0, h1]
      rw [hv]
      clear hv
      go_enter Tryz.func22, Tryz.ntmps22
      go_wp2_with (first | (go_at_call 38; refine (HRC.out _).mono ?_; rintro e w1 ⟨rfl, hb1⟩; rw [World.size_alloc] at hb1; have HB1 := Lib.hid hb1; clear hb1; obtain ⟨c0, c1, c2, c3, c4, c5, c6, c7, c8, c9, c10⟩ := (HX.out _ HB1.out).facts; rw [hk] at c0))
      all_goals go_ret
      all_goals exact ⟨rfl, HB.out⟩
  · have hv : (decide (0 ≤ x.w) && decide (x.w < 16) && R && (x.n == 0) && (x.tear == 0)) = false := by simp [h0]
    rw [hv]
    clear hv
    go_enter Tryz.func22, Tryz.ntmps22
    go_wp2_with (first | (go_at_call 38; refine (HRC.out _).mono ?_; rintro e w1 ⟨rfl, hb1⟩; rw [World.size_alloc] at hb1; have HB1 := Lib.hid hb1; clear hb1; obtain ⟨c0, c1, c2, c3, c4, c5, c6, c7, c8, c9, c10⟩ := (HX.out _ HB1.out).facts; rw [hk] at c0))
    all_goals go_ret
    all_goals exact ⟨rfl, HB.out⟩

set_option maxRecDepth 100000 in
set_option maxHeartbeats 16000000 in
theorem revent_2 (x : Ev) (hk : x.kind = 2) (W : World) : Calls Tryz.prog 22 #[x.v] W fun e w' => e = .returned (.bool (revent x)) ∧ Below W.heap.size W w' := by
  have hb0 := (Below.refl W.heap.size W).alloc (Nat.le_refl _) (.cells x.cells 27)
  have hxa := EvAt.fresh W x
  have heql := fun w => eql_ev x (Ev.bare 2 x.w x.n 0) w
  have hE : revent x = (decide (0 ≤ x.w) && decide (x.w < 16) && decide (0 ≤ x.n) && decide (x.n ≤ 1048576) && decide (x = Ev.bare 2 x.w x.n 0)) := by unfold revent workerB; simp [hk, Bool.and_assoc]
  rw [hE]
  generalize decide (x = Ev.bare 2 x.w x.n 0) = B at *
  unfold Ev.v Ev.bare Ev.cells Cl.zero at heql
  rw [hk] at heql
  simp only at heql
  clear hxa
  unfold Ev.v Ev.cells
  unfold Ev.cells at hb0
  rw [hk]
  rw [hk] at hb0
  have HB := Lib.hid hb0
  clear hE hb0
  by_cases h0 : 0 ≤ x.w
  · by_cases h1 : x.w < 16
    · by_cases h2 : 0 ≤ x.n
      · by_cases h3 : x.n ≤ 1048576
        · cases B with
          | false =>
            have hv : (decide (0 ≤ x.w) && decide (x.w < 16) && decide (0 ≤ x.n) && decide (x.n ≤ 1048576) && false) = false := by simp [h0, h1, h2, h3, Bool.and_false]
            rw [hv]
            clear hv
            go_enter Tryz.func22, Tryz.ntmps22
            go_wp2
            all_goals go_ret
            all_goals exact ⟨rfl, HB.out⟩
          | true =>
            have hv : (decide (0 ≤ x.w) && decide (x.w < 16) && decide (0 ≤ x.n) && decide (x.n ≤ 1048576) && true) = true := by simp [h0, h1, h2, h3, Bool.and_true]
            rw [hv]
            clear hv
            go_enter Tryz.func22, Tryz.ntmps22
            go_wp2
            all_goals go_ret
            all_goals exact ⟨rfl, HB.out⟩
        · have hv : (decide (0 ≤ x.w) && decide (x.w < 16) && decide (0 ≤ x.n) && decide (x.n ≤ 1048576) && B) = false := by simp [h0, h1, h2, h3]
          rw [hv]
          clear hv
          go_enter Tryz.func22, Tryz.ntmps22
          go_wp2
          all_goals go_ret
          all_goals exact ⟨rfl, HB.out⟩
      · have hv : (decide (0 ≤ x.w) && decide (x.w < 16) && decide (0 ≤ x.n) && decide (x.n ≤ 1048576) && B) = false := by simp [h0, h1, h2]
        rw [hv]
        clear hv
        go_enter Tryz.func22, Tryz.ntmps22
        go_wp2
        all_goals go_ret
        all_goals exact ⟨rfl, HB.out⟩
    · have hv : (decide (0 ≤ x.w) && decide (x.w < 16) && decide (0 ≤ x.n) && decide (x.n ≤ 1048576) && B) = false := by simp [h0, h1]
      rw [hv]
      clear hv
      go_enter Tryz.func22, Tryz.ntmps22
      go_wp2
      all_goals go_ret
      all_goals exact ⟨rfl, HB.out⟩
  · have hv : (decide (0 ≤ x.w) && decide (x.w < 16) && decide (0 ≤ x.n) && decide (x.n ≤ 1048576) && B) = false := by simp [h0]
    rw [hv]
    clear hv
    go_enter Tryz.func22, Tryz.ntmps22
    go_wp2
    all_goals go_ret
    all_goals exact ⟨rfl, HB.out⟩

set_option maxRecDepth 100000 in
set_option maxHeartbeats 16000000 in
theorem revent_3 (x : Ev) (hk : x.kind = 3) (W : World) : Calls Tryz.prog 22 #[x.v] W fun e w' => e = .returned (.bool (revent x)) ∧ Below W.heap.size W w' := by
  have hb0 := (Below.refl W.heap.size W).alloc (Nat.le_refl _) (.cells x.cells 27)
  have hxa := EvAt.fresh W x
  have heql := fun w => eql_ev x (Ev.bare 3 x.w 0 0) w
  have hE : revent x = (decide (0 ≤ x.w) && decide (x.w < 16) && decide (x = Ev.bare 3 x.w 0 0)) := by unfold revent workerB; simp [hk, Bool.and_assoc]
  rw [hE]
  generalize decide (x = Ev.bare 3 x.w 0 0) = B at *
  unfold Ev.v Ev.bare Ev.cells Cl.zero at heql
  rw [hk] at heql
  simp only at heql
  clear hxa
  unfold Ev.v Ev.cells
  unfold Ev.cells at hb0
  rw [hk]
  rw [hk] at hb0
  have HB := Lib.hid hb0
  clear hE hb0
  by_cases h0 : 0 ≤ x.w
  · by_cases h1 : x.w < 16
    · cases B with
      | false =>
        have hv : (decide (0 ≤ x.w) && decide (x.w < 16) && false) = false := by simp [h0, h1, Bool.and_false]
        rw [hv]
        clear hv
        go_enter Tryz.func22, Tryz.ntmps22
        go_wp2
        all_goals go_ret
        all_goals exact ⟨rfl, HB.out⟩
      | true =>
        have hv : (decide (0 ≤ x.w) && decide (x.w < 16) && true) = true := by simp [h0, h1, Bool.and_true]
        rw [hv]
        clear hv
        go_enter Tryz.func22, Tryz.ntmps22
        go_wp2
        all_goals go_ret
        all_goals exact ⟨rfl, HB.out⟩
    · have hv : (decide (0 ≤ x.w) && decide (x.w < 16) && B) = false := by simp [h0, h1]
      rw [hv]
      clear hv
      go_enter Tryz.func22, Tryz.ntmps22
      go_wp2
      all_goals go_ret
      all_goals exact ⟨rfl, HB.out⟩
  · have hv : (decide (0 ≤ x.w) && decide (x.w < 16) && B) = false := by simp [h0]
    rw [hv]
    clear hv
    go_enter Tryz.func22, Tryz.ntmps22
    go_wp2
    all_goals go_ret
    all_goals exact ⟨rfl, HB.out⟩
end Go.Proofs.YtkpofjfndokaeaaGreatDoor
