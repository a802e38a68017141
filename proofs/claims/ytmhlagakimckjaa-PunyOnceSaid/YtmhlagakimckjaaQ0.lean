-- Written by this session's program (a turned print).
import Derived.Test.YtmhlagakimckjaaProg
import Derived.Below
import Derived.Deep.Draws
import Derived.Deep.AppendLies
import Derived.Maps.AppendAt
import Derived.OwnWalk
import Derived.Laws.BytesArg
import Derived.Laws.MakeOwn
import Derived.Laws.OwnMore
import Derived.Deep.OwnRows
import Derived.Tactics
import Derived.Lib.ConvBytes
import Derived.Laws.Slices
import Derived.WalkKit
import Derived.KernelRfl
import Derived.RowKit3
import Derived.Deep.LoopGhost
import Derived.Deep.QuietTactic
import Derived.BigQuiet
import Derived.WideLaws
import Derived.Deep.DeepCutAuto
import Derived.Deep.CutBlock
import Derived.Deep.RegionHeld3
import Derived.Laws.Rows
import Derived.Lib.AppendStr
import Derived.ArgAppend
import Derived.Laws.IdiomCopy
import Derived.OrdersHeld
import Derived.Laws.BitsLemmas
import Derived.RowKit
import Derived.Test.YtmhlagakimckjaaWWords
import Derived.Test.YtmhlagakimckjaaWLast
import Derived.Test.YtmhlagakimckjaaWTab
import Derived.Test.YtmhlagakimckjaaWFour
import Derived.Test.YtmhlagakimckjaaWQPut
import Derived.Test.YtmhlagakimckjaaWApart
import Derived.Test.YtmhlagakimckjaaWArr
import Derived.Test.YtmhlagakimckjaaWZeros
import Derived.Test.YtmhlagakimckjaaWFoot
import Derived.Test.YtmhlagakimckjaaWKept
import Derived.Test.YtmhlagakimckjaaWShare
import Derived.Test.YtmhlagakimckjaaWN
import Derived.Test.YtmhlagakimckjaaWFootNe
import Derived.Test.YtmhlagakimckjaaWAt
import Derived.Test.YtmhlagakimckjaaWEqStruct
import Derived.Test.YtmhlagakimckjaaWRepsOne
import Derived.Test.YtmhlagakimckjaaWInv
import Derived.Test.YtmhlagakimckjaaWInvWords
import Derived.Test.YtmhlagakimckjaaWGuard
import Derived.Test.YtmhlagakimckjaaWNEv
import Derived.Test.YtmhlagakimckjaaWMore
namespace Go.Proofs.Ytmhlagakimckjaa.Q
open Go.RowKit Go.Proofs.YtmhlagakimckjaaW.PrintWords Go.Proofs.YtmhlagakimckjaaW.PrintLast Go.Proofs.YtmhlagakimckjaaW.PrintMore
attribute [local go_sem] max2_int min2_int max_two min_two max_three min_three max_four min_four   -- for this text's walks alone
set_option linter.unusedVariables false
set_option linter.unusedSimpArgs false



def errW : Option Int → Value
  | none => .nilIface
  | some c => .iface 0 (.int .i64 c)
theorem errW_none : errW none = .nilIface := rfl
theorem errW_some (c : Int) : errW (some c) = .iface 0 (.int .i64 c) := rfl

theorem info5 : (Try.prog.info? 5).map (fun i => (i.zero, i.size, i.bytes)) = some (some (.int .u8 0), 1, 1) := by kernel_rfl
theorem info21 : (Try.prog.info? 21).map (fun i => (i.zero, i.size, i.bytes)) = some (some (.int .i32 0), 1, 4) := by kernel_rfl
-- the values' own types

end Go.Proofs.Ytmhlagakimckjaa.Q
