-- Laid by a program of this session: the print tool's way, with this session's own walks of some functions laid in.
import Derived.Test.YtjbkejfagcdkjaaProg
import Derived.Below
import Derived.Deep.Draws
import Derived.Deep.AppendLies
import Derived.Maps.AppendAt
import Derived.OwnWalk
import Derived.Laws.BytesArg
import Derived.Laws.MakeOwn
import Derived.Laws.OwnMore
import Derived.Deep.OwnRows
import Derived.Tactics
import Derived.Lib.ConvBytes
import Derived.Laws.Slices
import Derived.WalkKit
import Derived.KernelRfl
import Derived.RowKit3
import Derived.Deep.LoopGhost
import Derived.Deep.QuietTactic
import Derived.BigQuiet
import Derived.WideLaws
import Derived.Deep.DeepCutAuto
import Derived.Deep.CutBlock
import Derived.Deep.RegionHeld3
import Derived.Laws.Rows
import Derived.Lib.AppendStr
import Derived.ArgAppend
import Derived.Laws.IdiomCopy
import Derived.OrdersHeld
import Derived.Laws.BitsLemmas
import Derived.RowKit
import Derived.FnLit
import Derived.Lib.Hide
import Derived.Test.YtjbkejfagcdkjaaWWords
import Derived.Test.YtjbkejfagcdkjaaWLast
import Derived.Test.YtjbkejfagcdkjaaWTab
import Derived.Test.YtjbkejfagcdkjaaWFour
import Derived.Test.YtjbkejfagcdkjaaWQPut
import Derived.Test.YtjbkejfagcdkjaaWApart
import Derived.Test.YtjbkejfagcdkjaaWArr
import Derived.Test.YtjbkejfagcdkjaaWZeros
import Derived.Test.YtjbkejfagcdkjaaWFoot
import Derived.Test.YtjbkejfagcdkjaaWKept
import Derived.Test.YtjbkejfagcdkjaaWShare
import Derived.Test.YtjbkejfagcdkjaaWN
import Derived.Test.YtjbkejfagcdkjaaWFootNe
import Derived.Test.YtjbkejfagcdkjaaWAt
import Derived.Test.YtjbkejfagcdkjaaWEqStruct
import Derived.Test.YtjbkejfagcdkjaaWRepsOne
import Derived.Test.YtjbkejfagcdkjaaWInv
import Derived.Test.YtjbkejfagcdkjaaWInvWords
import Derived.Test.YtjbkejfagcdkjaaWGuard
import Derived.Test.YtjbkejfagcdkjaaWNEv
import Derived.Test.YtjbkejfagcdkjaaWMore
namespace Go.Proofs.Ytjbkejfagcdkjaa.PSeqTells
open Go.RowKit Go.Proofs.YtjbkejfagcdkjaaW.PrintWords Go.Proofs.YtjbkejfagcdkjaaW.PrintLast Go.Proofs.YtjbkejfagcdkjaaW.PrintMore
attribute [local go_sem] max2_int min2_int max_two min_two max_three min_three max_four min_four   -- for this text's walks alone
set_option linter.unusedVariables false
set_option linter.unusedSimpArgs false



def errW : Option Int → Value
  | none => .nilIface
  | some c => .iface 0 (.int .i64 c)
theorem errW_none : errW none = .nilIface := rfl
theorem errW_some (c : Int) : errW (some c) = .iface 0 (.int .i64 c) := rfl

-- the values' own types

end Go.Proofs.Ytjbkejfagcdkjaa.PSeqTells
