/- script.line, kinds 2 to 5 (text printed by wip/tools/mkline.py). -/
import Derived.Test.YtkpofjfndokaeaaGreatDoorC3
namespace Go.Proofs.YtkpofjfndokaeaaGreatDoor
open Go.RowKit
set_option linter.unusedVariables false
set_option linter.unusedSimpArgs false

set_option maxRecDepth 100000 in
set_option maxHeartbeats 4000000 in
theorem line_2 (x : Ev) (hk : x.kind = 2) (hr : revent x = true) (W : World) (hs : St W) : Calls Tryz.prog 18 #[x.v] W fun e w' => e = .returned (.string ⟨(lineB x).toArray⟩) ∧ Below W.heap.size W w' := by
  have HI : Hid (∀ n, -9223372036854775808 ≤ n → n ≤ 9223372036854775807 → ∀ w, St w → Calls Tryz.prog 24 #[.int .i64 n] w fun e w' => e = .returned (.string ⟨(Lib.itoa n).toArray⟩) ∧ Below w.heap.size w w') := Lib.hid fun n h0 h1 w h => itoa_any n h0 h1 w h
  obtain ⟨_, hw1, hw2, hn1, hn2, ht1', ht2', _⟩ := revent_bounds hr
  have hw0 : -9223372036854775808 ≤ x.w := by omega
  have hw3 : x.w ≤ 9223372036854775807 := by omega
  have hn0 : -9223372036854775808 ≤ x.n := by omega
  have hn3 : x.n ≤ 9223372036854775807 := by omega
  have ht0 : -9223372036854775808 ≤ x.tear := by omega
  have ht1 : x.tear ≤ 9223372036854775807 := by omega
  have hlw := Lib.itoa_length_le x.w hw0 hw3
  have hln := Lib.itoa_length_le x.n hn0 hn3
  have hlt := Lib.itoa_length_le x.tear ht0 ht1
  have HLB : Hid (lineB x = [115, 116, 101, 112, 32] ++ Lib.itoa x.w ++ [32] ++ Lib.itoa x.n) := Lib.hid (by unfold lineB; simp [hk])
  obtain ⟨X, hX⟩ : ∃ X, X = W.alloc (.cells x.cells 27) := ⟨_, rfl⟩
  have HL := Lib.hid (line_start x W hs X hX)
  have c0 := (HL.out _ (Below.refl _ _)).1.facts
  unfold Ev.v
  unfold Ev.cells at hX ⊢
  rw [hk] at hX
  go_enter Tryz.func18, Tryz.ntmps18
  go_wp2_with fail
  rw [← hX]
  clear hX
  rw [hk] at c0
  obtain ⟨c0, c1, c2, c3, c4, c5, c6, c7, c8, c9, c10⟩ := c0
  go_region_with (first
    | (go_at_call 24; refine (HI.out _ (by omega) (by omega) _ (HL.out _ (Below.refl _ X).drew).2.2.1).mono ?_; rintro e w2 ⟨rfl, hb2⟩; have HB2 := Lib.hid ((Below.refl X.heap.size X).drew.trans hb2); obtain ⟨d0, d1, d2, d3, d4, d5, d6, d7, d8, d9, d10⟩ := (HL.out _ HB2.out).1.facts; rw [hk] at d0; clear hb2)
    | (go_at_call 24; refine (HI.out _ (by omega) (by omega) _ (HL.out _ HB2.out).2.2.1).mono ?_; rintro e w3 ⟨rfl, hb3⟩; have HB3 := Lib.hid (HB2.out.trans (hb3.mono HB2.out.size)); obtain ⟨f0, f1, f2, f3, f4, f5, f6, f7, f8, f9, f10⟩ := (HL.out _ HB3.out).1.facts; rw [hk] at f0; clear hb3))
  all_goals go_simp
  all_goals clear c0 c1 c2 c3 c4 c5 c6 c7 c8 c9 c10 d0 d1 d2 d3 d4 d5 d6 d7 d8 d9 d10
  all_goals have hza : ∀ l : List UInt8, (⟨l.toArray⟩ : ByteArray).size = l.length := fun l => by simp [ByteArray.size]
  all_goals go_wp2_with (first | fail)
  all_goals go_ret
  all_goals exact ⟨by rw [HLB.out]; simp only [← bapp]; rfl, (HL.out _ HB3.out).2.1⟩

set_option maxRecDepth 100000 in
set_option maxHeartbeats 4000000 in
theorem line_3 (x : Ev) (hk : x.kind = 3) (hr : revent x = true) (W : World) (hs : St W) : Calls Tryz.prog 18 #[x.v] W fun e w' => e = .returned (.string ⟨(lineB x).toArray⟩) ∧ Below W.heap.size W w' := by
  have HI : Hid (∀ n, -9223372036854775808 ≤ n → n ≤ 9223372036854775807 → ∀ w, St w → Calls Tryz.prog 24 #[.int .i64 n] w fun e w' => e = .returned (.string ⟨(Lib.itoa n).toArray⟩) ∧ Below w.heap.size w w') := Lib.hid fun n h0 h1 w h => itoa_any n h0 h1 w h
  obtain ⟨_, hw1, hw2, hn1, hn2, ht1', ht2', _⟩ := revent_bounds hr
  have hw0 : -9223372036854775808 ≤ x.w := by omega
  have hw3 : x.w ≤ 9223372036854775807 := by omega
  have hn0 : -9223372036854775808 ≤ x.n := by omega
  have hn3 : x.n ≤ 9223372036854775807 := by omega
  have ht0 : -9223372036854775808 ≤ x.tear := by omega
  have ht1 : x.tear ≤ 9223372036854775807 := by omega
  have hlw := Lib.itoa_length_le x.w hw0 hw3
  have hln := Lib.itoa_length_le x.n hn0 hn3
  have hlt := Lib.itoa_length_le x.tear ht0 ht1
  have HLB : Hid (lineB x = [114, 117, 110, 32] ++ Lib.itoa x.w) := Lib.hid (by unfold lineB; simp [hk])
  obtain ⟨X, hX⟩ : ∃ X, X = W.alloc (.cells x.cells 27) := ⟨_, rfl⟩
  have HL := Lib.hid (line_start x W hs X hX)
  have c0 := (HL.out _ (Below.refl _ _)).1.facts
  unfold Ev.v
  unfold Ev.cells at hX ⊢
  rw [hk] at hX
  go_enter Tryz.func18, Tryz.ntmps18
  go_wp2_with fail
  rw [← hX]
  clear hX
  rw [hk] at c0
  obtain ⟨c0, c1, c2, c3, c4, c5, c6, c7, c8, c9, c10⟩ := c0
  go_region_with (first
    | (go_at_call 24; refine (HI.out _ (by omega) (by omega) _ (HL.out _ (Below.refl _ X).drew).2.2.1).mono ?_; rintro e w2 ⟨rfl, hb2⟩; have HB2 := Lib.hid ((Below.refl X.heap.size X).drew.trans hb2); obtain ⟨d0, d1, d2, d3, d4, d5, d6, d7, d8, d9, d10⟩ := (HL.out _ HB2.out).1.facts; rw [hk] at d0; clear hb2)
    | (go_at_call 24; refine (HI.out _ (by omega) (by omega) _ (HL.out _ HB2.out).2.2.1).mono ?_; rintro e w3 ⟨rfl, hb3⟩; have HB3 := Lib.hid (HB2.out.trans (hb3.mono HB2.out.size)); obtain ⟨f0, f1, f2, f3, f4, f5, f6, f7, f8, f9, f10⟩ := (HL.out _ HB3.out).1.facts; rw [hk] at f0; clear hb3))
  all_goals go_simp
  all_goals clear c0 c1 c2 c3 c4 c5 c6 c7 c8 c9 c10 d0 d1 d2 d3 d4 d5 d6 d7 d8 d9 d10
  all_goals have hza : ∀ l : List UInt8, (⟨l.toArray⟩ : ByteArray).size = l.length := fun l => by simp [ByteArray.size]
  all_goals go_wp2_with (first | fail)
  all_goals go_ret
  all_goals exact ⟨by rw [HLB.out]; simp only [← bapp]; rfl, (HL.out _ HB3.out).2.1⟩

set_option maxRecDepth 100000 in
set_option maxHeartbeats 4000000 in
theorem line_4 (x : Ev) (hk : x.kind = 4) (hr : revent x = true) (W : World) (hs : St W) : Calls Tryz.prog 18 #[x.v] W fun e w' => e = .returned (.string ⟨(lineB x).toArray⟩) ∧ Below W.heap.size W w' := by
  have HI : Hid (∀ n, -9223372036854775808 ≤ n → n ≤ 9223372036854775807 → ∀ w, St w → Calls Tryz.prog 24 #[.int .i64 n] w fun e w' => e = .returned (.string ⟨(Lib.itoa n).toArray⟩) ∧ Below w.heap.size w w') := Lib.hid fun n h0 h1 w h => itoa_any n h0 h1 w h
  obtain ⟨_, hw1, hw2, hn1, hn2, ht1', ht2', _⟩ := revent_bounds hr
  have hw0 : -9223372036854775808 ≤ x.w := by omega
  have hw3 : x.w ≤ 9223372036854775807 := by omega
  have hn0 : -9223372036854775808 ≤ x.n := by omega
  have hn3 : x.n ≤ 9223372036854775807 := by omega
  have ht0 : -9223372036854775808 ≤ x.tear := by omega
  have ht1 : x.tear ≤ 9223372036854775807 := by omega
  have hlw := Lib.itoa_length_le x.w hw0 hw3
  have hln := Lib.itoa_length_le x.n hn0 hn3
  have hlt := Lib.itoa_length_le x.tear ht0 ht1
  have HLB : Hid (lineB x = [99, 114, 97, 115, 104, 32] ++ Lib.itoa x.n ++ [32] ++ Lib.itoa x.tear) := Lib.hid (by unfold lineB; simp [hk])
  obtain ⟨X, hX⟩ : ∃ X, X = W.alloc (.cells x.cells 27) := ⟨_, rfl⟩
  have HL := Lib.hid (line_start x W hs X hX)
  have c0 := (HL.out _ (Below.refl _ _)).1.facts
  unfold Ev.v
  unfold Ev.cells at hX ⊢
  rw [hk] at hX
  go_enter Tryz.func18, Tryz.ntmps18
  go_wp2_with fail
  rw [← hX]
  clear hX
  rw [hk] at c0
  obtain ⟨c0, c1, c2, c3, c4, c5, c6, c7, c8, c9, c10⟩ := c0
  go_region_with (first
    | (go_at_call 24; refine (HI.out _ (by omega) (by omega) _ (HL.out _ (Below.refl _ X).drew).2.2.1).mono ?_; rintro e w2 ⟨rfl, hb2⟩; have HB2 := Lib.hid ((Below.refl X.heap.size X).drew.trans hb2); obtain ⟨d0, d1, d2, d3, d4, d5, d6, d7, d8, d9, d10⟩ := (HL.out _ HB2.out).1.facts; rw [hk] at d0; clear hb2)
    | (go_at_call 24; refine (HI.out _ (by omega) (by omega) _ (HL.out _ HB2.out).2.2.1).mono ?_; rintro e w3 ⟨rfl, hb3⟩; have HB3 := Lib.hid (HB2.out.trans (hb3.mono HB2.out.size)); obtain ⟨f0, f1, f2, f3, f4, f5, f6, f7, f8, f9, f10⟩ := (HL.out _ HB3.out).1.facts; rw [hk] at f0; clear hb3))
  all_goals go_simp
  all_goals clear c0 c1 c2 c3 c4 c5 c6 c7 c8 c9 c10 d0 d1 d2 d3 d4 d5 d6 d7 d8 d9 d10
  all_goals have hza : ∀ l : List UInt8, (⟨l.toArray⟩ : ByteArray).size = l.length := fun l => by simp [ByteArray.size]
  all_goals go_wp2_with (first | (go_at_call 24; refine (HI.out _ ht0 ht1 _ (HL.out _ HB3.out).2.2.1).mono ?_; rintro e w4 ⟨rfl, hb4⟩; have HB4 := Lib.hid (HB3.out.trans (hb4.mono HB3.out.size)); clear hb4))
  all_goals go_ret
  all_goals exact ⟨by rw [HLB.out]; simp only [← bapp]; rfl, (HL.out _ HB4.out).2.1⟩

set_option maxRecDepth 100000 in
set_option maxHeartbeats 4000000 in
theorem line_5 (x : Ev) (hk : x.kind = 5) (hr : revent x = true) (W : World) (hs : St W) : Calls Tryz.prog 18 #[x.v] W fun e w' => e = .returned (.string ⟨(lineB x).toArray⟩) ∧ Below W.heap.size W w' := by
  have HI : Hid (∀ n, -9223372036854775808 ≤ n → n ≤ 9223372036854775807 → ∀ w, St w → Calls Tryz.prog 24 #[.int .i64 n] w fun e w' => e = .returned (.string ⟨(Lib.itoa n).toArray⟩) ∧ Below w.heap.size w w') := Lib.hid fun n h0 h1 w h => itoa_any n h0 h1 w h
  obtain ⟨_, hw1, hw2, hn1, hn2, ht1', ht2', _⟩ := revent_bounds hr
  have hw0 : -9223372036854775808 ≤ x.w := by omega
  have hw3 : x.w ≤ 9223372036854775807 := by omega
  have hn0 : -9223372036854775808 ≤ x.n := by omega
  have hn3 : x.n ≤ 9223372036854775807 := by omega
  have ht0 : -9223372036854775808 ≤ x.tear := by omega
  have ht1 : x.tear ≤ 9223372036854775807 := by omega
  have hlw := Lib.itoa_length_le x.w hw0 hw3
  have hln := Lib.itoa_length_le x.n hn0 hn3
  have hlt := Lib.itoa_length_le x.tear ht0 ht1
  have HLB : Hid (lineB x = [99, 117, 116, 32] ++ Lib.itoa x.n) := Lib.hid (by unfold lineB; simp [hk])
  obtain ⟨X, hX⟩ : ∃ X, X = W.alloc (.cells x.cells 27) := ⟨_, rfl⟩
  have HL := Lib.hid (line_start x W hs X hX)
  have c0 := (HL.out _ (Below.refl _ _)).1.facts
  unfold Ev.v
  unfold Ev.cells at hX ⊢
  rw [hk] at hX
  go_enter Tryz.func18, Tryz.ntmps18
  go_wp2_with fail
  rw [← hX]
  clear hX
  rw [hk] at c0
  obtain ⟨c0, c1, c2, c3, c4, c5, c6, c7, c8, c9, c10⟩ := c0
  go_region_with (first
    | (go_at_call 24; refine (HI.out _ (by omega) (by omega) _ (HL.out _ (Below.refl _ X).drew).2.2.1).mono ?_; rintro e w2 ⟨rfl, hb2⟩; have HB2 := Lib.hid ((Below.refl X.heap.size X).drew.trans hb2); obtain ⟨d0, d1, d2, d3, d4, d5, d6, d7, d8, d9, d10⟩ := (HL.out _ HB2.out).1.facts; rw [hk] at d0; clear hb2)
    | (go_at_call 24; refine (HI.out _ (by omega) (by omega) _ (HL.out _ HB2.out).2.2.1).mono ?_; rintro e w3 ⟨rfl, hb3⟩; have HB3 := Lib.hid (HB2.out.trans (hb3.mono HB2.out.size)); obtain ⟨f0, f1, f2, f3, f4, f5, f6, f7, f8, f9, f10⟩ := (HL.out _ HB3.out).1.facts; rw [hk] at f0; clear hb3))
  all_goals go_simp
  all_goals clear c0 c1 c2 c3 c4 c5 c6 c7 c8 c9 c10 d0 d1 d2 d3 d4 d5 d6 d7 d8 d9 d10
  all_goals have hza : ∀ l : List UInt8, (⟨l.toArray⟩ : ByteArray).size = l.length := fun l => by simp [ByteArray.size]
  all_goals go_wp2_with (first | fail)
  all_goals go_ret
  all_goals exact ⟨by rw [HLB.out]; simp only [← bapp]; rfl, (HL.out _ HB3.out).2.1⟩

end Go.Proofs.YtkpofjfndokaeaaGreatDoor
