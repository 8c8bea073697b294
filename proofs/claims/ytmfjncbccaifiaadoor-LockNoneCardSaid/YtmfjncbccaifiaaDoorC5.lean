/- LockNone: the walk of the law. -/
import Derived.Test.YtmfjncbccaifiaaDoorB4
namespace Go.Proofs.YtmfjncbccaifiaaDoor
open Go.RowKit
set_option linter.unusedVariables false
set_option linter.unusedSimpArgs false

set_option maxHeartbeats 2000000 in
theorem LockNone.walk (a0 : Int) (a1 : Option Addr) (len1 cap1 : Nat) (z1 : List Int) (w0 : (Lit.int .i64 a0).wf = true) {w : World} (w1 : IsRow .i64 w a1 len1 cap1 z1) (y1 : len1 * 8 ≤ 140737488351232) (s : Start w) :
    Calls Tryd.prog 8 #[.int .i64 a0, .slice a1 len1 cap1] w fun e w' => e = .returned (.bool true) ∧ Below w.heap.size w w' := by
  have HS := Lib.hid (shown_at s)
  have hb : Later w w := Below.refl _ _
  clear w0 w1 y1 s
  go_enter Tryd.func8, Tryd.ntmps8
  go_wp2_with (first | (go_at_call 11; refine (HS.out _ hb).mono ?_; clear hb; rintro e w1 ⟨rfl, hb⟩) | go_in)
  go_ret
  exact ⟨rfl, hb.alloc hb.size _⟩
end Go.Proofs.YtmfjncbccaifiaaDoor
