/- LockAlone and LockNone: the walks of the laws. -/
import Derived.Test.YtmfjncbccaifiaaDoorC1
import Derived.Test.YtmfjncbccaifiaaDoorB4
namespace Go.Proofs.YtmfjncbccaifiaaDoor
open Go.RowKit
set_option linter.unusedVariables false
set_option linter.unusedSimpArgs false

set_option maxHeartbeats 2000000 in
theorem alone_no (m me other e0 : Int) (w : World)
    (HS : Hid (∀ w', Later w w' → Calls Tryd.prog 11 #[] w' fun e w'' => e = .returned (.bool true) ∧ Later w w''))
    (HW : Hid (∀ w', Later w w' → Calls Tryd.prog 13 #[.int .u64 m, .int .i64 me] w' fun e w'' => e = .returned (.tuple #[.int .u64 0, .bool false, .int .i64 e0]) ∧ Later w w''))
    (h : e0 = 0 ∨ e0 = 2 ∨ e0 = 130) :
    Calls Tryd.prog 6 #[.int .u64 m, .int .i64 me, .int .i64 other] w fun e w' => e = .returned (.bool true) ∧ Later w w' := by
  have hb : Later w w := Below.refl _ _
  rcases h with rfl | rfl | rfl
  all_goals
    go_enter Tryd.func6, Tryd.ntmps6
    go_wp2_with (first | (go_at_call 11; refine (HS.out _ hb).mono ?_; clear hb; rintro e w1 ⟨rfl, hb⟩) | (go_at_call 13; refine (HW.out _ hb).mono ?_; clear hb; rintro e w1 ⟨rfl, hb⟩))
    go_ret
    exact ⟨rfl, hb⟩

set_option maxHeartbeats 4000000 in
theorem alone_yes (m me other a x y f g : Int) (r q : Bool) (w : World)
    (HS : Hid (∀ w', Later w w' → Calls Tryd.prog 11 #[] w' fun e w'' => e = .returned (.bool true) ∧ Later w w''))
    (HW : Hid (∀ w', Later w w' → Calls Tryd.prog 13 #[.int .u64 m, .int .i64 me] w' fun e w'' => e = .returned (.tuple #[.int .u64 a, .bool true, .int .i64 0]) ∧ Later w w''))
    (HR2 : Hid (∀ w', Later w w' → Calls Tryd.prog 12 #[.int .u64 a, .int .i64 other] w' fun e w'' => e = .returned (.tuple #[.int .u64 x, .bool r, .int .i64 f]) ∧ Later w w''))
    (HW2 : Hid (∀ w', Later w w' → Calls Tryd.prog 13 #[.int .u64 a, .int .i64 other] w' fun e w'' => e = .returned (.tuple #[.int .u64 y, .bool q, .int .i64 g]) ∧ Later w w''))
    (HL1 : Hid (∀ w', Later w w' → Calls Tryd.prog 18 #[.int .u64 a, .int .i64 me] w' fun e w'' => e = .returned (.tuple #[.int .u64 0, .int .i64 0]) ∧ w' = w''))
    (HL2 : Hid (∀ w', Later w w' → Calls Tryd.prog 18 #[.int .u64 m, .int .i64 me] w' fun e w'' => e = .returned (.tuple #[.int .u64 0, .int .i64 0]) ∧ w' = w''))
    (HA : Hid (∀ w', Later w w' → Calls Tryd.prog 14 #[.int .u64 0, .int .i64 other, .bool true] w' fun e w'' => ∃ A c, e = .returned (.slice A 0 c) ∧ Later w w''))
    (h : other ≠ me → r = false ∧ q = false) :
    Calls Tryd.prog 6 #[.int .u64 m, .int .i64 me, .int .i64 other] w fun e w' => e = .returned (.bool true) ∧ Later w w' := by
  have hb : Later w w := Below.refl _ _
  by_cases ho : other = me
  · subst ho
    clear h
    go_enter Tryd.func6, Tryd.ntmps6
    go_wp2_with (first | (go_at_call 11; refine (HS.out _ hb).mono ?_; clear hb; rintro e w1 ⟨rfl, hb⟩) | (go_at_call 13; refine (HW.out _ hb).mono ?_; clear hb HW; rintro e w1 ⟨rfl, hb⟩) | (go_at_call 13; refine (HW2.out _ hb).mono ?_; clear hb; rintro e w1 ⟨rfl, hb⟩) | (go_at_call 12; refine (HR2.out _ hb).mono ?_; clear hb; rintro e w1 ⟨rfl, hb⟩) | (go_at_call 18; refine (HL1.out _ hb).mono ?_; clear HL1; rintro e w1 ⟨rfl, rfl⟩) | (go_at_call 18; refine (HL2.out _ hb).mono ?_; rintro e w1 ⟨rfl, rfl⟩) | (go_at_call 14; refine (HA.out _ hb).mono ?_; clear hb; rintro e w1 ⟨A, c, rfl, hb⟩))
    go_loop [22] (fun i => i = .int .i64 0) (fun _ => 0)
    case atStart => rfl
    case round =>
      obtain rfl := hrel
      go_wp2
      go_ret
      exact ⟨rfl, hb⟩
  · obtain ⟨rfl, rfl⟩ := h ho
    have t1 : (other != me) = true := by simpa using ho
    have t1' : (other == me) = false := by simpa using ho
    clear ho h
    by_cases hf : f = 0 <;> by_cases hg : g = 0
    · subst hf; subst hg
      go_enter Tryd.func6, Tryd.ntmps6
      go_wp2_with (first | (go_at_call 11; refine (HS.out _ hb).mono ?_; clear hb; rintro e w1 ⟨rfl, hb⟩) | (go_at_call 13; refine (HW.out _ hb).mono ?_; clear hb HW; rintro e w1 ⟨rfl, hb⟩) | (go_at_call 13; refine (HW2.out _ hb).mono ?_; clear hb; rintro e w1 ⟨rfl, hb⟩) | (go_at_call 12; refine (HR2.out _ hb).mono ?_; clear hb; rintro e w1 ⟨rfl, hb⟩) | (go_at_call 18; refine (HL1.out _ hb).mono ?_; clear HL1; rintro e w1 ⟨rfl, rfl⟩) | (go_at_call 18; refine (HL2.out _ hb).mono ?_; rintro e w1 ⟨rfl, rfl⟩) | (go_at_call 14; refine (HA.out _ hb).mono ?_; clear hb; rintro e w1 ⟨A, c, rfl, hb⟩))
      go_loop [22] (fun i => i = .int .i64 0) (fun _ => 0)
      case atStart => rfl
      case round =>
        obtain rfl := hrel
        go_wp2
        go_ret
        exact ⟨rfl, hb⟩
    · subst hf
      have t2 : (g == 0) = false := by simpa using hg
      clear hg
      go_enter Tryd.func6, Tryd.ntmps6
      go_wp2_with (first | (go_at_call 11; refine (HS.out _ hb).mono ?_; clear hb; rintro e w1 ⟨rfl, hb⟩) | (go_at_call 13; refine (HW.out _ hb).mono ?_; clear hb HW; rintro e w1 ⟨rfl, hb⟩) | (go_at_call 13; refine (HW2.out _ hb).mono ?_; clear hb; rintro e w1 ⟨rfl, hb⟩) | (go_at_call 12; refine (HR2.out _ hb).mono ?_; clear hb; rintro e w1 ⟨rfl, hb⟩) | (go_at_call 18; refine (HL1.out _ hb).mono ?_; clear HL1; rintro e w1 ⟨rfl, rfl⟩) | (go_at_call 18; refine (HL2.out _ hb).mono ?_; rintro e w1 ⟨rfl, rfl⟩) | (go_at_call 14; refine (HA.out _ hb).mono ?_; clear hb; rintro e w1 ⟨A, c, rfl, hb⟩))
      go_loop [22] (fun i => i = .int .i64 0) (fun _ => 0)
      case atStart => rfl
      case round =>
        obtain rfl := hrel
        go_wp2
        go_ret
        exact ⟨rfl, hb⟩
    · subst hg
      have t2 : (f == 0) = false := by simpa using hf
      clear hf
      go_enter Tryd.func6, Tryd.ntmps6
      go_wp2_with (first | (go_at_call 11; refine (HS.out _ hb).mono ?_; clear hb; rintro e w1 ⟨rfl, hb⟩) | (go_at_call 13; refine (HW.out _ hb).mono ?_; clear hb HW; rintro e w1 ⟨rfl, hb⟩) | (go_at_call 13; refine (HW2.out _ hb).mono ?_; clear hb; rintro e w1 ⟨rfl, hb⟩) | (go_at_call 12; refine (HR2.out _ hb).mono ?_; clear hb; rintro e w1 ⟨rfl, hb⟩) | (go_at_call 18; refine (HL1.out _ hb).mono ?_; clear HL1; rintro e w1 ⟨rfl, rfl⟩) | (go_at_call 18; refine (HL2.out _ hb).mono ?_; rintro e w1 ⟨rfl, rfl⟩) | (go_at_call 14; refine (HA.out _ hb).mono ?_; clear hb; rintro e w1 ⟨A, c, rfl, hb⟩))
      go_loop [22] (fun i => i = .int .i64 0) (fun _ => 0)
      case atStart => rfl
      case round =>
        obtain rfl := hrel
        go_wp2
        go_ret
        exact ⟨rfl, hb⟩
    · have t2 : (f == 0) = false := by simpa using hf
      have t3 : (g == 0) = false := by simpa using hg
      clear hf hg
      go_enter Tryd.func6, Tryd.ntmps6
      go_wp2_with (first | (go_at_call 11; refine (HS.out _ hb).mono ?_; clear hb; rintro e w1 ⟨rfl, hb⟩) | (go_at_call 13; refine (HW.out _ hb).mono ?_; clear hb HW; rintro e w1 ⟨rfl, hb⟩) | (go_at_call 13; refine (HW2.out _ hb).mono ?_; clear hb; rintro e w1 ⟨rfl, hb⟩) | (go_at_call 12; refine (HR2.out _ hb).mono ?_; clear hb; rintro e w1 ⟨rfl, hb⟩) | (go_at_call 18; refine (HL1.out _ hb).mono ?_; clear HL1; rintro e w1 ⟨rfl, rfl⟩) | (go_at_call 18; refine (HL2.out _ hb).mono ?_; rintro e w1 ⟨rfl, rfl⟩) | (go_at_call 14; refine (HA.out _ hb).mono ?_; clear hb; rintro e w1 ⟨A, c, rfl, hb⟩))
      go_loop [22] (fun i => i = .int .i64 0) (fun _ => 0)
      case atStart => rfl
      case round =>
        obtain rfl := hrel
        go_wp2
        go_ret
        exact ⟨rfl, hb⟩

theorem LockAlone.walk (a0 a1 a2 : Int) (w0 : (Lit.int .u64 a0).wf = true) (w1 : (Lit.int .i64 a1).wf = true) (w2 : (Lit.int .i64 a2).wf = true) {w : World} (s : Start w) :
    Calls Tryd.prog 6 #[.int .u64 a0, .int .i64 a1, .int .i64 a2] w fun e w' => e = .returned (.bool true) ∧ Below w.heap.size w w' := by
  obtain ⟨m, rfl, hm⟩ := nat_of_u64 w0
  have hW := write_at s m a1 hm
  by_cases h : wrg m a1 = 0 ∧ agn m a1 true = []
  · obtain ⟨h1, h2⟩ := isW_true.1 (wrg_zero.1 h.1).1
    obtain ⟨k, rfl⟩ := Int.eq_ofNat_of_zero_le h1
    obtain ⟨a, ha, e1, e2, e3, e4⟩ := alone_facts hm (by omega) h.1 h.2
    rw [e1] at hW
    have hL1 := leave_at s a (k : Int) ha
    have hL2 := leave_at s m (k : Int) hm
    rw [e2] at hL1
    rw [e3] at hL2
    have hA := against_len s 0 a2 true (by decide) 0 (by rw [agn_zero]; rfl)
    exact alone_yes _ _ a2 _ _ _ _ _ _ _ w (Lib.hid (shown_at s)) (Lib.hid hW) (Lib.hid (read_at s a a2 ha)) (Lib.hid (write_at s a a2 ha)) (Lib.hid hL1) (Lib.hid hL2) (Lib.hid hA) (fun ho => e4 a2 ho)
  · have e : wrW m a1 = (0, false, wrg m a1) := by unfold wrW; rw [if_neg h]
    rw [e] at hW
    exact alone_no _ _ _ _ w (Lib.hid (shown_at s)) (Lib.hid hW) (wrg_three m a1)
end Go.Proofs.YtmfjncbccaifiaaDoor
