-- PRINTED BY print.sh 35421559b90ae4d0a3588c463048766b98c2df88dd9212a6774a882060cdf62d: not written by this session
import Derived.Test.YtmfjncbccaifiaaDoorProg
import Derived.Below
import Derived.Deep.Draws
import Derived.Deep.AppendLies
import Derived.Maps.AppendAt
import Derived.OwnWalk
import Derived.Laws.BytesArg
import Derived.Laws.MakeOwn
import Derived.Laws.OwnMore
import Derived.Deep.OwnRows
import Derived.Tactics
import Derived.Lib.ConvBytes
import Derived.Laws.Slices
import Derived.WalkKit
import Derived.KernelRfl
import Derived.RowKit3
import Derived.Deep.LoopGhost
import Derived.Deep.QuietTactic
import Derived.BigQuiet
import Derived.WideLaws
import Derived.Deep.DeepCutAuto
import Derived.Deep.CutBlock
import Derived.Deep.RegionHeld3
import Derived.Laws.Rows
import Derived.Lib.AppendStr
import Derived.ArgAppend
import Derived.Laws.IdiomCopy
import Derived.OrdersHeld
import Derived.Laws.BitsLemmas
import Derived.RowKit
import Derived.Test.YtmfjncbccaifiaaDoorWWords
import Derived.Test.YtmfjncbccaifiaaDoorWLast
import Derived.Test.YtmfjncbccaifiaaDoorWTab
import Derived.Test.YtmfjncbccaifiaaDoorWFour
import Derived.Test.YtmfjncbccaifiaaDoorWQPut
import Derived.Test.YtmfjncbccaifiaaDoorWApart
import Derived.Test.YtmfjncbccaifiaaDoorWArr
import Derived.Test.YtmfjncbccaifiaaDoorWZeros
import Derived.Test.YtmfjncbccaifiaaDoorWFoot
import Derived.Test.YtmfjncbccaifiaaDoorWKept
import Derived.Test.YtmfjncbccaifiaaDoorWShare
import Derived.Test.YtmfjncbccaifiaaDoorWN
import Derived.Test.YtmfjncbccaifiaaDoorWFootNe
import Derived.Test.YtmfjncbccaifiaaDoorWAt
import Derived.Test.YtmfjncbccaifiaaDoorWEqStruct
import Derived.Test.YtmfjncbccaifiaaDoorWRepsOne
import Derived.Test.YtmfjncbccaifiaaDoorWInv
import Derived.Test.YtmfjncbccaifiaaDoorWInvWords
import Derived.Test.YtmfjncbccaifiaaDoorWGuard
import Derived.Test.YtmfjncbccaifiaaDoorWNEv
import Derived.Test.YtmfjncbccaifiaaDoorWMore
namespace Go.Proofs.YtmfjncbccaifiaaDoor.PLockWords
open Go.RowKit Go.Proofs.YtmfjncbccaifiaaDoorW.PrintWords Go.Proofs.YtmfjncbccaifiaaDoorW.PrintLast Go.Proofs.YtmfjncbccaifiaaDoorW.PrintMore
attribute [local go_sem] max2_int min2_int max_two min_two max_three min_three max_four min_four   -- for this text's walks alone
set_option linter.unusedVariables false
set_option linter.unusedSimpArgs false



def errW : Option Int → Value
  | none => .nilIface
  | some c => .iface 0 (.int .i64 c)
theorem errW_none : errW none = .nilIface := rfl
theorem errW_some (c : Int) : errW (some c) = .iface 0 (.int .i64 c) := rfl

theorem info3 : (Tryd.prog.info? 3).map (fun i => (i.zero, i.size, i.bytes)) = some (some (.int .i64 0), 1, 8) := by kernel_rfl
-- the values' own types

end Go.Proofs.YtmfjncbccaifiaaDoor.PLockWords
