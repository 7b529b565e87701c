/- The functions that the laws of this seat reach, each with a Lean function of the same answers and the proof of it: laid by a program of this seat's own (allprint.py), for this seat. No condition of its own. -/
import Derived.Test.YtboomlocclionaaProg
import Derived.Below
import Derived.Deep.Draws
import Derived.Deep.AppendLies
import Derived.Maps.AppendAt
import Derived.OwnWalk
import Derived.Laws.BytesArg
import Derived.Laws.MakeOwn
import Derived.Laws.OwnMore
import Derived.Deep.OwnRows
import Derived.Tactics
import Derived.Lib.ConvBytes
import Derived.Laws.Slices
import Derived.WalkKit
import Derived.KernelRfl
import Derived.RowKit3
import Derived.Deep.LoopGhost
import Derived.Deep.QuietTactic
import Derived.BigQuiet
import Derived.WideLaws
import Derived.Deep.DeepCutAuto
import Derived.Deep.CutBlock
import Derived.Deep.RegionHeld3
import Derived.Laws.Rows
import Derived.Lib.AppendStr
import Derived.ArgAppend
import Derived.Laws.IdiomCopy
import Derived.OrdersHeld
import Derived.Laws.BitsLemmas
import Derived.RowKit
import Derived.Test.YtboomlocclionaaWWords
import Derived.Test.YtboomlocclionaaWLast
import Derived.Test.YtboomlocclionaaWTab
import Derived.Test.YtboomlocclionaaWFour
import Derived.Test.YtboomlocclionaaWQPut
import Derived.Test.YtboomlocclionaaWApart
import Derived.Test.YtboomlocclionaaWArr
import Derived.Test.YtboomlocclionaaWZeros
import Derived.Test.YtboomlocclionaaWFoot
import Derived.Test.YtboomlocclionaaWKept
import Derived.Test.YtboomlocclionaaWShare
import Derived.Test.YtboomlocclionaaWN
import Derived.Test.YtboomlocclionaaWFootNe
import Derived.Test.YtboomlocclionaaWAt
import Derived.Test.YtboomlocclionaaWEqStruct
import Derived.Test.YtboomlocclionaaWRepsOne
import Derived.Test.YtboomlocclionaaWInv
import Derived.Test.YtboomlocclionaaWInvWords
import Derived.Test.YtboomlocclionaaWGuard
import Derived.Test.YtboomlocclionaaWNEv
import Derived.Test.YtboomlocclionaaWMore
namespace Go.Proofs.Ytboomlocclionaa.Q
open Go.RowKit Go.Proofs.YtboomlocclionaaW.PrintWords Go.Proofs.YtboomlocclionaaW.PrintLast Go.Proofs.YtboomlocclionaaW.PrintMore
attribute [local go_sem] max2_int min2_int max_two min_two max_three min_three max_four min_four   -- for this text's walks alone
set_option linter.unusedVariables false
set_option linter.unusedSimpArgs false



def errW : Option Int → Value
  | none => .nilIface
  | some c => .iface 0 (.int .i64 c)
theorem errW_none : errW none = .nilIface := rfl
theorem errW_some (c : Int) : errW (some c) = .iface 0 (.int .i64 c) := rfl

theorem info3 : (Try.prog.info? 3).map (fun i => (i.zero, i.size, i.bytes)) = some (some (.int .i64 0), 1, 8) := by kernel_rfl
-- the values' own types

end Go.Proofs.Ytboomlocclionaa.Q
