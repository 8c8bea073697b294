/- shown, carried out by the evaluator. -/
import Derived.Test.YtoodbcpbfnojaaaGreatDoorK19
import Derived.KernelRfl
namespace Go.Proofs.YtoodbcpbfnojaaaGreatDoor
open Go Go.RowKit
set_option maxRecDepth 100000

theorem shown_run : Ev.okB (Ev.ev Tryz.prog Ev.noSpec 100000 (.call 4 []) .lf 0 Ev.h0 100000) = true := by kernel_rfl
end Go.Proofs.YtoodbcpbfnojaaaGreatDoor
