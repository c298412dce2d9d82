-- Laid by a program of this session: the print tool's way, with this session's own walks of some functions laid in.
import Derived.Test.YtpieabhpgefbnaaProg
import Derived.Below
import Derived.Deep.Draws
import Derived.Deep.AppendLies
import Derived.Maps.AppendAt
import Derived.OwnWalk
import Derived.Laws.BytesArg
import Derived.Laws.MakeOwn
import Derived.Laws.OwnMore
import Derived.Deep.OwnRows
import Derived.Tactics
import Derived.Lib.ConvBytes
import Derived.Laws.Slices
import Derived.WalkKit
import Derived.KernelRfl
import Derived.RowKit3
import Derived.Deep.LoopGhost
import Derived.Deep.QuietTactic
import Derived.BigQuiet
import Derived.WideLaws
import Derived.Deep.DeepCutAuto
import Derived.Deep.CutBlock
import Derived.Deep.RegionHeld3
import Derived.Laws.Rows
import Derived.Lib.AppendStr
import Derived.ArgAppend
import Derived.Laws.IdiomCopy
import Derived.OrdersHeld
import Derived.Laws.BitsLemmas
import Derived.RowKit
import Derived.FnLit
import Derived.Lib.Hide
import Derived.Test.YtpieabhpgefbnaaAid
import Derived.Test.YtpieabhpgefbnaaWWords
import Derived.Test.YtpieabhpgefbnaaWLast
import Derived.Test.YtpieabhpgefbnaaWTab
import Derived.Test.YtpieabhpgefbnaaWFour
import Derived.Test.YtpieabhpgefbnaaWQPut
import Derived.Test.YtpieabhpgefbnaaWApart
import Derived.Test.YtpieabhpgefbnaaWArr
import Derived.Test.YtpieabhpgefbnaaWZeros
import Derived.Test.YtpieabhpgefbnaaWFoot
import Derived.Test.YtpieabhpgefbnaaWKept
import Derived.Test.YtpieabhpgefbnaaWShare
import Derived.Test.YtpieabhpgefbnaaWN
import Derived.Test.YtpieabhpgefbnaaWFootNe
import Derived.Test.YtpieabhpgefbnaaWAt
import Derived.Test.YtpieabhpgefbnaaWEqStruct
import Derived.Test.YtpieabhpgefbnaaWRepsOne
import Derived.Test.YtpieabhpgefbnaaWInv
import Derived.Test.YtpieabhpgefbnaaWInvWords
import Derived.Test.YtpieabhpgefbnaaWGuard
import Derived.Test.YtpieabhpgefbnaaWNEv
import Derived.Test.YtpieabhpgefbnaaWMore
namespace Go.Proofs.Ytpieabhpgefbnaa.PWordJoins
open Go.RowKit Go.Proofs.YtpieabhpgefbnaaW.PrintWords Go.Proofs.YtpieabhpgefbnaaW.PrintLast Go.Proofs.YtpieabhpgefbnaaW.PrintMore
attribute [local go_sem] Int.emod_add_emod Int.add_emod_emod Int.emod_sub_emod Int.sub_emod_emod max2_int min2_int max_two min_two max_three min_three max_four min_four   -- for this text's walks alone
set_option linter.unusedVariables false
set_option linter.unusedSimpArgs false



def errW : Option Int → Value
  | none => .nilIface
  | some c => .iface 0 (.int .i64 c)
theorem errW_none : errW none = .nilIface := rfl
theorem errW_some (c : Int) : errW (some c) = .iface 0 (.int .i64 c) := rfl

-- the values' own types

end Go.Proofs.Ytpieabhpgefbnaa.PWordJoins
