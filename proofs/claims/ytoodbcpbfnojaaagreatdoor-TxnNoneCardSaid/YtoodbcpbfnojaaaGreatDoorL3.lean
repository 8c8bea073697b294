/- TxnNone: the walk of the law. -/
import Derived.Test.YtoodbcpbfnojaaaGreatDoorL2
namespace Go.Proofs.YtoodbcpbfnojaaaGreatDoor
open Go Go.RowKit
set_option linter.unusedVariables false
set_option linter.unusedSimpArgs false

set_option maxHeartbeats 4000000 in
theorem TxnNone.walk (a0 a1 : Int) (w0 : (Lit.int .i64 a0).wf = true) (w1 : (Lit.int .i64 a1).wf = true) {w : World} (s : Start w) :
    Calls Tryz.prog 3 #[.int .i64 a0, .int .i64 a1] w fun e w' => e = .returned (.bool true) ∧ Below w.heap.size w w' := by
  have HS := Lib.hid (shown_at s)
  have H5 := Lib.hid (start_nil a0)
  have H6 := Lib.hid (step_nil a0)
  have H7 := Lib.hid (reply_nil a0)
  have H8 := Lib.hid (has_nil a0)
  have H9 := Lib.hid snap_nil
  have H10 := Lib.hid sstep_nil
  have H11 := Lib.hid (ahead_nil a1)
  have H12 := Lib.hid (drawn_nil a0)
  have H13 := Lib.hid (rows_nil a1)
  have H14 := Lib.hid now_nil
  have H15 := Lib.hid versions_nil
  have H16 := Lib.hid srows_nil
  have H17 := Lib.hid sat_nil
  have hb : Later w w := Below.refl _ _
  clear w0 w1 s
  go_enter Tryz.func3, Tryz.ntmps3
  go_wp2_with (first
    | (go_at_call 4; refine (HS.out _ hb).mono ?_; clear hb; rintro e w1 ⟨rfl, hb⟩)
    | (go_at_call 5; refine (H5.out _).mono ?_; rintro e w2 ⟨rfl, h2⟩; replace hb := Later.step hb h2; clear h2)
    | (go_at_call 6; refine (H6.out _).mono ?_; rintro e w2 ⟨rfl, h2⟩; replace hb := Later.step hb h2; clear h2)
    | (go_at_call 7; refine (H7.out _).mono ?_; rintro e w2 ⟨rfl, h2⟩; replace hb := Later.step hb h2; clear h2)
    | (go_at_call 8; refine (H8.out _).mono ?_; rintro e w2 ⟨rfl, h2⟩; replace hb := Later.step hb h2; clear h2)
    | (go_at_call 9; refine (H9.out _).mono ?_; rintro e w2 ⟨rfl, h2⟩; replace hb := Later.step hb h2; clear h2)
    | (go_at_call 10; refine (H10.out _).mono ?_; rintro e w2 ⟨rfl, h2⟩; replace hb := Later.step hb h2; clear h2)
    | (go_at_call 11; refine (H11.out _).mono ?_; rintro e w2 ⟨rfl, h2⟩; replace hb := Later.step hb h2; clear h2)
    | (go_at_call 12; refine (H12.out _).mono ?_; rintro e w2 ⟨rfl, h2⟩; replace hb := Later.step hb h2; clear h2)
    | (go_at_call 13; refine (H13.out _).mono ?_; rintro e w2 ⟨rfl, h2⟩; replace hb := Later.step hb h2; clear h2)
    | (go_at_call 14; refine (H14.out _).mono ?_; rintro e w2 ⟨rfl, h2⟩; replace hb := Later.step hb h2; clear h2)
    | (go_at_call 15; refine (H15.out _).mono ?_; rintro e w2 ⟨rfl, h2⟩; replace hb := Later.step hb h2; clear h2)
    | (go_at_call 16; refine (H16.out _).mono ?_; rintro e w2 ⟨rfl, h2⟩; replace hb := Later.step hb h2; clear h2)
    | (go_at_call 17; refine (H17.out _).mono ?_; rintro e w2 ⟨rfl, h2⟩; replace hb := Later.step hb h2; clear h2)
    | go_in)
  go_ret
  exact ⟨rfl, (hb.alloc hb.size _).alloc (hb.alloc hb.size _).size _⟩
end Go.Proofs.YtoodbcpbfnojaaaGreatDoor
