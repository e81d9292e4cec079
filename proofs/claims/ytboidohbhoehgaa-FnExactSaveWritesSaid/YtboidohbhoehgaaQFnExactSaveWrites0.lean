/- What the texts of the law FnExactSaveWrites share: names and the values' own types. Laid by program. -/
import Derived.Lib.SliceRun
import Derived.Test.YtboidohbhoehgaaProg
import Derived.Below
import Derived.Deep.Draws
import Derived.Deep.AppendLies
import Derived.Maps.AppendAt
import Derived.OwnWalk
import Derived.Laws.BytesArg
import Derived.Laws.MakeOwn
import Derived.Laws.OwnMore
import Derived.Deep.OwnRows
import Derived.Tactics
import Derived.Lib.ConvBytes
import Derived.Laws.Slices
import Derived.WalkKit
import Derived.KernelRfl
import Derived.RowKit3
import Derived.Deep.LoopGhost
import Derived.Deep.QuietTactic
import Derived.BigQuiet
import Derived.WideLaws
import Derived.Deep.DeepCutAuto
import Derived.Deep.CutBlock
import Derived.Deep.RegionHeld3
import Derived.Laws.Rows
import Derived.Lib.AppendStr
import Derived.ArgAppend
import Derived.Laws.IdiomCopy
import Derived.OrdersHeld
import Derived.Laws.BitsLemmas
import Derived.RowKit
import Derived.Test.YtboidohbhoehgaaWWords
import Derived.Test.YtboidohbhoehgaaWLast
import Derived.Test.YtboidohbhoehgaaWTab
import Derived.Test.YtboidohbhoehgaaWFour
import Derived.Test.YtboidohbhoehgaaWQPut
import Derived.Test.YtboidohbhoehgaaWApart
import Derived.Test.YtboidohbhoehgaaWArr
import Derived.Test.YtboidohbhoehgaaWZeros
import Derived.Test.YtboidohbhoehgaaWFoot
import Derived.Test.YtboidohbhoehgaaWKept
import Derived.Test.YtboidohbhoehgaaWShare
import Derived.Test.YtboidohbhoehgaaWN
import Derived.Test.YtboidohbhoehgaaWFootNe
import Derived.Test.YtboidohbhoehgaaWAt
import Derived.Test.YtboidohbhoehgaaWEqStruct
import Derived.Test.YtboidohbhoehgaaWRepsOne
import Derived.Test.YtboidohbhoehgaaWInv
import Derived.Test.YtboidohbhoehgaaWInvWords
import Derived.Test.YtboidohbhoehgaaWGuard
import Derived.Test.YtboidohbhoehgaaWNEv
import Derived.Test.YtboidohbhoehgaaWMore
namespace Go.Proofs.Ytboidohbhoehgaa.QFnExactSaveWrites
open Go.RowKit Go.Proofs.YtboidohbhoehgaaW.PrintWords Go.Proofs.YtboidohbhoehgaaW.PrintLast Go.Proofs.YtboidohbhoehgaaW.PrintMore
attribute [local go_sem] max2_int min2_int max_two min_two max_three min_three max_four min_four   -- for this text's walks alone
set_option linter.unusedVariables false
set_option linter.unusedSimpArgs false



def errW : Option Int → Value
  | none => .nilIface
  | some c => .iface 0 (.int .i64 c)
theorem errW_none : errW none = .nilIface := rfl
theorem errW_some (c : Int) : errW (some c) = .iface 0 (.int .i64 c) := rfl

theorem info3 : (Try.prog.info? 3).map (fun i => (i.zero, i.size, i.bytes)) = some (some (.int .i64 0), 1, 8) := by kernel_rfl
-- the values' own types

end Go.Proofs.Ytboidohbhoehgaa.QFnExactSaveWrites
