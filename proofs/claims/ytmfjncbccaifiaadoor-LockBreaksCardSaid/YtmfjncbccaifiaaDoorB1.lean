/- LockAgrees, walked. -/
import Derived.Test.YtmfjncbccaifiaaDoorA6
namespace Go.Proofs.YtmfjncbccaifiaaDoor
open Go.RowKit Go.Shelf
set_option linter.unusedVariables false
set_option linter.unusedSimpArgs false

theorem agn_wrong {m : Nat} {a : Int} (h : wrg m a ≠ 0) (b : Bool) : agn m a b = [] := by
  unfold agn
  split
  · rename_i hw
    have hr : ¬ rgt m = true := fun hr => h (wrg_zero.2 ⟨hw, hr⟩)
    have e1 : rdM m = 0 := by unfold rdM; rw [if_neg hr]
    have e2 : wrM m = 0 := by unfold wrM; rw [if_neg (fun h => hr h.1)]
    have e3 : inWay m a.toNat b = 0 := by unfold inWay; rw [e1, e2]; cases b <;> simp
    rw [e3, mem_zero]
  · rfl

theorem mem_mono {x y : Nat} (h : ∀ i, x.testBit i = true → y.testBit i = true) : (mem x).length ≤ (mem y).length := by
  unfold mem
  rw [← List.countP_eq_length_filter, ← List.countP_eq_length_filter]
  exact List.countP_mono_left (fun i _ hi => h i hi)

theorem agn_mono (m : Nat) (a : Int) : (agn m a false).length ≤ (agn m a true).length := by
  unfold agn
  split
  · apply mem_mono
    intro i hi
    unfold inWay at hi ⊢
    simp only [Bool.false_eq_true, if_false, if_true, Nat.testBit_and, Nat.testBit_or, Bool.and_eq_true, Bool.or_eq_true] at hi ⊢
    exact ⟨.inl hi.1, hi.2⟩
  · exact Nat.le_refl _

theorem against_len {w : World} (s : Start w) (m : Nat) (a : Int) (b : Bool) (hm : m < 18446744073709551616) (n : Nat) (hn : (agn m a b).length = n) (w' : World) (h : Later w w') :
    Calls Tryd.prog 14 #[.int .u64 (m : Int), .int .i64 a, .bool b] w' fun e w'' => ∃ A c, e = .returned (.slice A n c) ∧ Later w w'' :=
  (against_at s m a b hm w' h).mono fun _ _ ⟨A, c, he, hr, hb⟩ => ⟨A, c, by rw [he, hn], hb⟩

set_option maxHeartbeats 2000000 in
theorem agrees_core (m a : Int) (n1 n2 : Nat) (x y e0 : Int) (r1 r2 : Bool) (w : World) 
    (HS : Hid (∀ w', Later w w' → Calls Tryd.prog 11 #[] w' fun e w'' => e = .returned (.bool true) ∧ Later w w''))
    (HR : Hid (∀ w', Later w w' → Calls Tryd.prog 12 #[.int .u64 m, .int .i64 a] w' fun e w'' => e = .returned (.tuple #[.int .u64 x, .bool r1, .int .i64 e0]) ∧ Later w w''))
    (HW : Hid (∀ w', Later w w' → Calls Tryd.prog 13 #[.int .u64 m, .int .i64 a] w' fun e w'' => e = .returned (.tuple #[.int .u64 y, .bool r2, .int .i64 e0]) ∧ Later w w''))
    (HA : Hid (∀ w', Later w w' → Calls Tryd.prog 14 #[.int .u64 m, .int .i64 a, .bool false] w' fun e w'' => ∃ A c, e = .returned (.slice A n1 c) ∧ Later w w''))
    (HB : Hid (∀ w', Later w w' → Calls Tryd.prog 14 #[.int .u64 m, .int .i64 a, .bool true] w' fun e w'' => ∃ A c, e = .returned (.slice A n2 c) ∧ Later w w''))
    (h : (e0 = 0 ∧ r1 = (n1 == 0) ∧ r2 = (n2 == 0) ∧ n1 ≤ n2) ∨ (e0 ≠ 0 ∧ r1 = false ∧ r2 = false ∧ n1 = 0 ∧ n2 = 0)) :
    Calls Tryd.prog 3 #[.int .u64 m, .int .i64 a] w fun e w' => e = .returned (.bool true) ∧ Later w w' := by
  have hb : Later w w := Below.refl _ _
  rcases h with ⟨rfl, rfl, rfl, hle⟩ | ⟨he, rfl, rfl, rfl, rfl⟩
  · have hle1 : decide (n1 ≤ n2) = true := by simpa using hle
    by_cases h1 : n1 = 0 <;> by_cases h2 : n2 = 0
    · subst h1; subst h2
      go_enter Tryd.func3, Tryd.ntmps3
      go_wp2_with (first | (go_at_call 11; refine (HS.out _ hb).mono ?_; clear hb; rintro e w1 ⟨rfl, hb⟩) | (go_at_call 12; refine (HR.out _ hb).mono ?_; clear hb; rintro e w1 ⟨rfl, hb⟩) | (go_at_call 13; refine (HW.out _ hb).mono ?_; clear hb; rintro e w1 ⟨rfl, hb⟩) | (go_at_call 14; refine (HA.out _ hb).mono ?_; clear hb; clear HA; rintro e w1 ⟨A, c, rfl, hb⟩) | (go_at_call 14; refine (HB.out _ hb).mono ?_; clear hb; rintro e w1 ⟨A2, c2, rfl, hb⟩))
      go_ret
      exact ⟨rfl, hb⟩
    · subst h1
      have q1 : (n2 == 0) = false := by simpa using h2
      have q2 : ((n2 : Int) == 0) = false := by simp; omega
      go_enter Tryd.func3, Tryd.ntmps3
      go_wp2_with (first | (go_at_call 11; refine (HS.out _ hb).mono ?_; clear hb; rintro e w1 ⟨rfl, hb⟩) | (go_at_call 12; refine (HR.out _ hb).mono ?_; clear hb; rintro e w1 ⟨rfl, hb⟩) | (go_at_call 13; refine (HW.out _ hb).mono ?_; clear hb; rintro e w1 ⟨rfl, hb⟩) | (go_at_call 14; refine (HA.out _ hb).mono ?_; clear hb; clear HA; rintro e w1 ⟨A, c, rfl, hb⟩) | (go_at_call 14; refine (HB.out _ hb).mono ?_; clear hb; rintro e w1 ⟨A2, c2, rfl, hb⟩))
      go_ret
      exact ⟨rfl, hb⟩
    · omega
    · have q1 : (n2 == 0) = false := by simpa using h2
      have q2 : ((n2 : Int) == 0) = false := by simp; omega
      have q3 : (n1 == 0) = false := by simpa using h1
      have q4 : ((n1 : Int) == 0) = false := by simp; omega
      go_enter Tryd.func3, Tryd.ntmps3
      go_wp2_with (first | (go_at_call 11; refine (HS.out _ hb).mono ?_; clear hb; rintro e w1 ⟨rfl, hb⟩) | (go_at_call 12; refine (HR.out _ hb).mono ?_; clear hb; rintro e w1 ⟨rfl, hb⟩) | (go_at_call 13; refine (HW.out _ hb).mono ?_; clear hb; rintro e w1 ⟨rfl, hb⟩) | (go_at_call 14; refine (HA.out _ hb).mono ?_; clear hb; clear HA; rintro e w1 ⟨A, c, rfl, hb⟩) | (go_at_call 14; refine (HB.out _ hb).mono ?_; clear hb; rintro e w1 ⟨A2, c2, rfl, hb⟩))
      go_ret
      exact ⟨rfl, hb⟩
  · have q1 : (e0 == 0) = false := by simpa using he
    have q2 : (e0 != 0) = true := by simpa using he
    go_enter Tryd.func3, Tryd.ntmps3
    go_wp2_with (first | (go_at_call 11; refine (HS.out _ hb).mono ?_; clear hb; rintro e w1 ⟨rfl, hb⟩) | (go_at_call 12; refine (HR.out _ hb).mono ?_; clear hb; rintro e w1 ⟨rfl, hb⟩) | (go_at_call 13; refine (HW.out _ hb).mono ?_; clear hb; rintro e w1 ⟨rfl, hb⟩) | (go_at_call 14; refine (HA.out _ hb).mono ?_; clear hb; clear HA; rintro e w1 ⟨A, c, rfl, hb⟩) | (go_at_call 14; refine (HB.out _ hb).mono ?_; clear hb; rintro e w1 ⟨A2, c2, rfl, hb⟩))
    go_ret
    exact ⟨rfl, hb⟩

theorem rdW_flag (m : Nat) (a : Int) : (rdW m a).2 = (wrg m a == 0 && ((agn m a false).length == 0), wrg m a) := by
  unfold rdW; by_cases h : wrg m a = 0 <;> by_cases h2 : agn m a false = [] <;> simp [h, h2]
theorem wrW_flag (m : Nat) (a : Int) : (wrW m a).2 = (wrg m a == 0 && ((agn m a true).length == 0), wrg m a) := by
  unfold wrW; by_cases h : wrg m a = 0 <;> by_cases h2 : agn m a true = [] <;> simp [h, h2]

theorem agrees_walk (m : Nat) (a : Int) (hm : m < 18446744073709551616) (w : World) (s : Start w) :
    Calls Tryd.prog 3 #[.int .u64 (m : Int), .int .i64 a] w fun e w' => e = .returned (.bool true) ∧ Later w w' := by
  have hR := read_at s m a hm
  have hW := write_at s m a hm
  rw [rdW_flag] at hR
  rw [wrW_flag] at hW
  refine agrees_core m a (agn m a false).length (agn m a true).length _ _ _ _ _ w (Lib.hid (shown_at s)) (Lib.hid hR) (Lib.hid hW) (Lib.hid (against_len s m a false hm _ rfl)) (Lib.hid (against_len s m a true hm _ rfl)) ?_
  by_cases he : wrg m a = 0
  · exact .inl ⟨he, by simp [he], by simp [he], agn_mono m a⟩
  · exact .inr ⟨he, by simp [he], by simp [he], by rw [agn_wrong he]; rfl, by rw [agn_wrong he]; rfl⟩

/-- A number of kind uint64 as a natural number. -/
theorem nat_of_u64 {a : Int} (w : (Lit.int .u64 a).wf = true) : ∃ m : Nat, a = (m : Int) ∧ m < 18446744073709551616 := by
  have h : 0 ≤ a ∧ a < 18446744073709551616 := by
    simp [Lit.wf, IntKind.min, IntKind.max, IntKind.signed, IntKind.bits] at w
    omega
  obtain ⟨m, rfl⟩ := Int.eq_ofNat_of_zero_le h.1
  exact ⟨m, rfl, by omega⟩

theorem LockAgrees.walk (a0 a1 : Int) (w0 : (Lit.int .u64 a0).wf = true) (w1 : (Lit.int .i64 a1).wf = true) (w : World) (s : Start w) :
    Calls Tryd.prog 3 #[.int .u64 a0, .int .i64 a1] w fun e w' => e = .returned (.bool true) ∧ Below w.heap.size w w' := by
  obtain ⟨m, rfl, hm⟩ := nat_of_u64 w0
  exact agrees_walk m a1 hm w s
end Go.Proofs.YtmfjncbccaifiaaDoor
