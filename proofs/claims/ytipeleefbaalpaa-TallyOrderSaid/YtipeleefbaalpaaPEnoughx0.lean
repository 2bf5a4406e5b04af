/- Out of the program's own print, by wip/myprint.py over the kit's print.py: functions as plain Lean, their contracts. -/
import Derived.Test.YtipeleefbaalpaaProg
import Derived.Below
import Derived.Deep.Draws
import Derived.Deep.AppendLies
import Derived.Maps.AppendAt
import Derived.OwnWalk
import Derived.Laws.BytesArg
import Derived.Laws.MakeOwn
import Derived.Laws.OwnMore
import Derived.Deep.OwnRows
import Derived.Tactics
import Derived.Lib.ConvBytes
import Derived.Laws.Slices
import Derived.WalkKit
import Derived.KernelRfl
import Derived.RowKit3
import Derived.Deep.LoopGhost
import Derived.Deep.QuietTactic
import Derived.BigQuiet
import Derived.WideLaws
import Derived.Deep.DeepCutAuto
import Derived.Deep.CutBlock
import Derived.Deep.RegionHeld3
import Derived.Laws.Rows
import Derived.Lib.AppendStr
import Derived.ArgAppend
import Derived.Laws.IdiomCopy
import Derived.OrdersHeld
import Derived.Laws.BitsLemmas
import Derived.RowKit
import Derived.Test.YtipeleefbaalpaaWWords
import Derived.Test.YtipeleefbaalpaaWLast
import Derived.Test.YtipeleefbaalpaaWTab
import Derived.Test.YtipeleefbaalpaaWFour
import Derived.Test.YtipeleefbaalpaaWQPut
import Derived.Test.YtipeleefbaalpaaWApart
import Derived.Test.YtipeleefbaalpaaWArr
import Derived.Test.YtipeleefbaalpaaWZeros
import Derived.Test.YtipeleefbaalpaaWFoot
import Derived.Test.YtipeleefbaalpaaWKept
import Derived.Test.YtipeleefbaalpaaWShare
import Derived.Test.YtipeleefbaalpaaWN
import Derived.Test.YtipeleefbaalpaaWFootNe
import Derived.Test.YtipeleefbaalpaaWAt
import Derived.Test.YtipeleefbaalpaaWEqStruct
import Derived.Test.YtipeleefbaalpaaWRepsOne
import Derived.Test.YtipeleefbaalpaaWInv
import Derived.Test.YtipeleefbaalpaaWInvWords
import Derived.Test.YtipeleefbaalpaaWGuard
import Derived.Test.YtipeleefbaalpaaWNEv
import Derived.Test.YtipeleefbaalpaaWMore
namespace Go.Proofs.Ytipeleefbaalpaa.PEnough
open Go.RowKit Go.Proofs.YtipeleefbaalpaaW.PrintWords Go.Proofs.YtipeleefbaalpaaW.PrintLast Go.Proofs.YtipeleefbaalpaaW.PrintMore
attribute [local go_sem] max2_int min2_int max_two min_two max_three min_three max_four min_four   -- for this text's walks alone
set_option linter.unusedVariables false
set_option linter.unusedSimpArgs false



def errW : Option Int → Value
  | none => .nilIface
  | some c => .iface 0 (.int .i64 c)
theorem errW_none : errW none = .nilIface := rfl
theorem errW_some (c : Int) : errW (some c) = .iface 0 (.int .i64 c) := rfl

-- the values' own types

end Go.Proofs.Ytipeleefbaalpaa.PEnough
