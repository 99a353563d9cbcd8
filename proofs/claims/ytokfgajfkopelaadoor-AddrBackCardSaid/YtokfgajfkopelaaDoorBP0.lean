/- Contracts of functions, each by a Lean function of its own; written by program out of Lean's print of the program. -/
import Derived.Test.YtokfgajfkopelaaDoorProg
import Derived.Below
import Derived.Deep.Draws
import Derived.Deep.AppendLies
import Derived.Maps.AppendAt
import Derived.OwnWalk
import Derived.Laws.BytesArg
import Derived.Laws.MakeOwn
import Derived.Laws.OwnMore
import Derived.Deep.OwnRows
import Derived.Tactics
import Derived.Lib.ConvBytes
import Derived.Laws.Slices
import Derived.WalkKit
import Derived.KernelRfl
import Derived.RowKit3
import Derived.Deep.LoopGhost
import Derived.Deep.QuietTactic
import Derived.BigQuiet
import Derived.WideLaws
import Derived.Deep.DeepCutAuto
import Derived.Deep.CutBlock
import Derived.Deep.RegionHeld3
import Derived.Laws.Rows
import Derived.Lib.AppendStr
import Derived.ArgAppend
import Derived.Laws.IdiomCopy
import Derived.OrdersHeld
import Derived.Laws.BitsLemmas
import Derived.RowKit
import Derived.Test.YtokfgajfkopelaaDoorWWords
import Derived.Test.YtokfgajfkopelaaDoorWLast
import Derived.Test.YtokfgajfkopelaaDoorWTab
import Derived.Test.YtokfgajfkopelaaDoorWFour
import Derived.Test.YtokfgajfkopelaaDoorWQPut
import Derived.Test.YtokfgajfkopelaaDoorWApart
import Derived.Test.YtokfgajfkopelaaDoorWArr
import Derived.Test.YtokfgajfkopelaaDoorWZeros
import Derived.Test.YtokfgajfkopelaaDoorWFoot
import Derived.Test.YtokfgajfkopelaaDoorWKept
import Derived.Test.YtokfgajfkopelaaDoorWShare
import Derived.Test.YtokfgajfkopelaaDoorWN
import Derived.Test.YtokfgajfkopelaaDoorWFootNe
import Derived.Test.YtokfgajfkopelaaDoorWAt
import Derived.Test.YtokfgajfkopelaaDoorWEqStruct
import Derived.Test.YtokfgajfkopelaaDoorWRepsOne
import Derived.Test.YtokfgajfkopelaaDoorWInv
import Derived.Test.YtokfgajfkopelaaDoorWInvWords
import Derived.Test.YtokfgajfkopelaaDoorWGuard
import Derived.Test.YtokfgajfkopelaaDoorWNEv
import Derived.Test.YtokfgajfkopelaaDoorWMore
namespace Go.Proofs.YtokfgajfkopelaaDoor.BP
open Go.RowKit Go.Proofs.YtokfgajfkopelaaDoorW.PrintWords Go.Proofs.YtokfgajfkopelaaDoorW.PrintLast Go.Proofs.YtokfgajfkopelaaDoorW.PrintMore
attribute [local go_sem] max2_int min2_int max_two min_two max_three min_three max_four min_four   -- for this text's walks alone
set_option linter.unusedVariables false
set_option linter.unusedSimpArgs false



def errW : Option Int → Value
  | none => .nilIface
  | some c => .iface 0 (.int .i64 c)
theorem errW_none : errW none = .nilIface := rfl
theorem errW_some (c : Int) : errW (some c) = .iface 0 (.int .i64 c) := rfl

-- the values' own types

end Go.Proofs.YtokfgajfkopelaaDoor.BP
