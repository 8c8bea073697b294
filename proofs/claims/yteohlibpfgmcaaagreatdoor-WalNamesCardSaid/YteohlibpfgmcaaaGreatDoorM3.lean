/- WalNames: the walk of the law. -/
import Derived.Test.YteohlibpfgmcaaaGreatDoorM0
import Derived.Test.YteohlibpfgmcaaaGreatDoorM1
import Derived.Test.YteohlibpfgmcaaaGreatDoorM2
import Derived.OwnWalkIn
import Derived.TacticsInMore
namespace Go.Proofs.YteohlibpfgmcaaaGreatDoor
open Go.RowKit
set_option linter.unusedVariables false
set_option linter.unusedSimpArgs false
set_option maxHeartbeats 4000000

/-- A segment's name. -/
def nameB (n : Int) : ByteArray := ⟨#[108, 111, 103, 45]⟩ ++ ⟨(Lib.itoa n).toArray⟩
theorem itoa_len (n : Int) (h0 : -9223372036854775808 ≤ n) (h1 : n ≤ 9223372036854775807) : (⟨(Lib.itoa n).toArray⟩ : ByteArray).size ≤ 100 := by
  have := Lib.itoa_length_le n h0 h1
  show (Lib.itoa n).toArray.size ≤ 100
  rw [List.size_toArray]; omega
theorem wname_any (n : Int) (h0 : -9223372036854775808 ≤ n) (h1 : n ≤ 9223372036854775807) (W : World) (hs : St W) :
    Calls Tryz.prog 9 #[.int .i64 n] W fun e w' => e = .returned (.string (nameB n)) ∧ Below W.heap.size W w' := by
  have HI := Lib.hid (itoa_any n h0 h1)
  have hl := itoa_len n h0 h1
  unfold nameB
  generalize (⟨(Lib.itoa n).toArray⟩ : ByteArray) = S at *
  go_enter Tryz.func9, Tryz.ntmps9
  go_wp2_with (first | (go_at_call 36; refine (HI.out _ hs).mono ?_; rintro e w1 ⟨rfl, hb⟩) | go_in)
  go_ret
  exact ⟨rfl, hb⟩
theorem dname_any (n : Int) (h0 : -9223372036854775808 ≤ n) (h1 : n ≤ 9223372036854775807) (W : World) :
    Calls Tryz.prog 10 #[.int .i64 n] W fun e w' => e = .returned (.string (nameB n)) ∧ w' = W := by
  have HI := Lib.hid (digits_any n h0 h1)
  have hl := itoa_len n h0 h1
  unfold nameB
  generalize (⟨(Lib.itoa n).toArray⟩ : ByteArray) = S at *
  go_enter Tryz.func10, Tryz.ntmps10
  go_wp2_with (first | (go_at_call 37; refine (HI.out _).mono ?_; rintro e w1 ⟨rfl, rfl⟩) | go_in)
  go_ret
  exact ⟨rfl, rfl⟩

theorem WalNames.walk (a0 : Int) (w0 : (Lit.int .i64 a0).wf = true) {w : World} (s : St w) :
    Calls Tryz.prog 3 #[.int .i64 a0] w fun e w' => e = .returned (.bool true) ∧ Below w.heap.size w w' := by
  have hr : -9223372036854775808 ≤ a0 ∧ a0 ≤ 9223372036854775807 := by
    simp only [Lit.wf, Bool.and_eq_true, decide_eq_true_eq] at w0
    exact ⟨w0.1, w0.2⟩
  have HS := Lib.hid shown_any
  have HN := Lib.hid (wname_any a0 hr.1 hr.2)
  have HD := Lib.hid (dname_any a0 hr.1 hr.2)
  clear w0 hr
  go_enter Tryz.func3, Tryz.ntmps3
  go_wp2_with (first
    | (go_at_call 8; refine (HS.out _).mono ?_; rintro e w1 ⟨rfl, hb⟩; have s1 := s.later hb)
    | (go_at_call 9; refine (HN.out _ s1).mono ?_; rintro e w2 ⟨rfl, hb2⟩)
    | (go_at_call 10; refine (HD.out _).mono ?_; rintro e w3 ⟨rfl, rfl⟩)
    | go_in)
  go_ret
  exact ⟨rfl, hb.trans (hb2.mono hb.size)⟩
end Go.Proofs.YteohlibpfgmcaaaGreatDoor
