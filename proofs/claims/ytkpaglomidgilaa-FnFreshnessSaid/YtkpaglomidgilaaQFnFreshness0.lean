/- What the texts of the law FnFreshness share: names and the values' own types. Laid by program. -/
import Derived.Lib.SliceRun
import Derived.Shelf.Abstract
import Derived.Test.YtkpaglomidgilaaProg
import Derived.Below
import Derived.Deep.Draws
import Derived.Deep.AppendLies
import Derived.Maps.AppendAt
import Derived.OwnWalk
import Derived.Laws.BytesArg
import Derived.Laws.MakeOwn
import Derived.Laws.OwnMore
import Derived.Deep.OwnRows
import Derived.Tactics
import Derived.Lib.ConvBytes
import Derived.Laws.Slices
import Derived.WalkKit
import Derived.KernelRfl
import Derived.RowKit3
import Derived.Deep.LoopGhost
import Derived.Deep.QuietTactic
import Derived.BigQuiet
import Derived.WideLaws
import Derived.Deep.DeepCutAuto
import Derived.Deep.CutBlock
import Derived.Deep.RegionHeld3
import Derived.Laws.Rows
import Derived.Lib.AppendStr
import Derived.ArgAppend
import Derived.Laws.IdiomCopy
import Derived.OrdersHeld
import Derived.Laws.BitsLemmas
import Derived.RowKit
import Derived.Test.YtkpaglomidgilaaWWords
import Derived.Test.YtkpaglomidgilaaWLast
import Derived.Test.YtkpaglomidgilaaWTab
import Derived.Test.YtkpaglomidgilaaWFour
import Derived.Test.YtkpaglomidgilaaWQPut
import Derived.Test.YtkpaglomidgilaaWApart
import Derived.Test.YtkpaglomidgilaaWArr
import Derived.Test.YtkpaglomidgilaaWZeros
import Derived.Test.YtkpaglomidgilaaWFoot
import Derived.Test.YtkpaglomidgilaaWKept
import Derived.Test.YtkpaglomidgilaaWShare
import Derived.Test.YtkpaglomidgilaaWN
import Derived.Test.YtkpaglomidgilaaWFootNe
import Derived.Test.YtkpaglomidgilaaWAt
import Derived.Test.YtkpaglomidgilaaWEqStruct
import Derived.Test.YtkpaglomidgilaaWRepsOne
import Derived.Test.YtkpaglomidgilaaWInv
import Derived.Test.YtkpaglomidgilaaWInvWords
import Derived.Test.YtkpaglomidgilaaWGuard
import Derived.Test.YtkpaglomidgilaaWNEv
import Derived.Test.YtkpaglomidgilaaWMore
namespace Go.Proofs.Ytkpaglomidgilaa.QFnFreshness
open Go.RowKit Go.Proofs.YtkpaglomidgilaaW.PrintWords Go.Proofs.YtkpaglomidgilaaW.PrintLast Go.Proofs.YtkpaglomidgilaaW.PrintMore
attribute [local go_sem] max2_int min2_int max_two min_two max_three min_three max_four min_four   -- for this text's walks alone
set_option linter.unusedVariables false
set_option linter.unusedSimpArgs false



def errW : Option Int → Value
  | none => .nilIface
  | some c => .iface 0 (.int .i64 c)
theorem errW_none : errW none = .nilIface := rfl
theorem errW_some (c : Int) : errW (some c) = .iface 0 (.int .i64 c) := rfl

theorem info3 : (Try.prog.info? 3).map (fun i => (i.zero, i.size, i.bytes)) = some (some (.int .i64 0), 1, 8) := by kernel_rfl
-- the values' own types

end Go.Proofs.Ytkpaglomidgilaa.QFnFreshness
