/- varvelaw08.shown, carried out by the evaluator; num.Crc by its contract. -/
import Derived.Test.YteohlibpfgmcaaaGreatDoorKZ
import Derived.Test.YteohlibpfgmcaaaGreatDoorC1
import Derived.Test.YteohlibpfgmcaaaGreatDoorC3
import Derived.KernelRfl
namespace Go.Proofs.YteohlibpfgmcaaaGreatDoor
open Go Go.RowKit
set_option maxRecDepth 100000

theorem crc_spec : Ev.SpecOK Tryz.prog (Ev.crcSp 113 crcN) := Ev.crcSp_ok crc_bsw
noncomputable abbrev Ev.walSp : Ev.Spec := Ev.orSp (Ev.crcSp 113 crcN) (Ev.namesSp 16)
theorem wal_spec : Ev.SpecOK Tryz.prog Ev.walSp := Ev.orSp_ok crc_spec Ev.namesSp_ok
theorem shown_run : Ev.okZ (Ev.ev Tryz.prog Ev.walSp 100000 (.call 8 []) .lf 0 .lf 100000) = true := by kernel_rfl
theorem shown_any (w : World) : Calls Tryz.prog 8 #[] w fun e w' => e = .returned (.bool true) ∧ Below w.heap.size w w' := Ev.head_anyZ wal_spec shown_run w
end Go.Proofs.YteohlibpfgmcaaaGreatDoor
