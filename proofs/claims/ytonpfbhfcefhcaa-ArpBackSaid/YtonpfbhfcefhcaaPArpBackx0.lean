-- Laid by a program of this session: the print tool's way, with this session's own walks of some functions laid in.
import Derived.Test.YtonpfbhfcefhcaaProg
import Derived.Below
import Derived.Deep.Draws
import Derived.Deep.AppendLies
import Derived.Maps.AppendAt
import Derived.OwnWalk
import Derived.Laws.BytesArg
import Derived.Laws.MakeOwn
import Derived.Laws.OwnMore
import Derived.Deep.OwnRows
import Derived.Tactics
import Derived.Lib.ConvBytes
import Derived.Laws.Slices
import Derived.WalkKit
import Derived.KernelRfl
import Derived.RowKit3
import Derived.Deep.LoopGhost
import Derived.Deep.QuietTactic
import Derived.BigQuiet
import Derived.WideLaws
import Derived.Deep.DeepCutAuto
import Derived.Deep.CutBlock
import Derived.Deep.RegionHeld3
import Derived.Laws.Rows
import Derived.Lib.AppendStr
import Derived.ArgAppend
import Derived.Laws.IdiomCopy
import Derived.OrdersHeld
import Derived.Laws.BitsLemmas
import Derived.RowKit
import Derived.FnLit
import Derived.Lib.Hide
import Derived.Test.YtonpfbhfcefhcaaAid
import Derived.Lib.ConvBytes
import Derived.Test.YtonpfbhfcefhcaaObj
import Derived.Test.YtonpfbhfcefhcaaWWords
import Derived.Test.YtonpfbhfcefhcaaWLast
import Derived.Test.YtonpfbhfcefhcaaWTab
import Derived.Test.YtonpfbhfcefhcaaWFour
import Derived.Test.YtonpfbhfcefhcaaWQPut
import Derived.Test.YtonpfbhfcefhcaaWApart
import Derived.Test.YtonpfbhfcefhcaaWArr
import Derived.Test.YtonpfbhfcefhcaaWZeros
import Derived.Test.YtonpfbhfcefhcaaWFoot
import Derived.Test.YtonpfbhfcefhcaaWKept
import Derived.Test.YtonpfbhfcefhcaaWShare
import Derived.Test.YtonpfbhfcefhcaaWN
import Derived.Test.YtonpfbhfcefhcaaWFootNe
import Derived.Test.YtonpfbhfcefhcaaWAt
import Derived.Test.YtonpfbhfcefhcaaWEqStruct
import Derived.Test.YtonpfbhfcefhcaaWRepsOne
import Derived.Test.YtonpfbhfcefhcaaWInv
import Derived.Test.YtonpfbhfcefhcaaWInvWords
import Derived.Test.YtonpfbhfcefhcaaWGuard
import Derived.Test.YtonpfbhfcefhcaaWNEv
import Derived.Test.YtonpfbhfcefhcaaWMore
namespace Go.Proofs.Ytonpfbhfcefhcaa.PArpBack
open Go.RowKit Go.Proofs.YtonpfbhfcefhcaaW.PrintWords Go.Proofs.YtonpfbhfcefhcaaW.PrintLast Go.Proofs.YtonpfbhfcefhcaaW.PrintMore
attribute [local go_sem] max2_int min2_int max_two min_two max_three min_three max_four min_four   -- for this text's walks alone
set_option linter.unusedVariables false
set_option linter.unusedSimpArgs false



def errW : Option Int → Value
  | none => .nilIface
  | some c => .iface 0 (.int .i64 c)
theorem errW_none : errW none = .nilIface := rfl
theorem errW_some (c : Int) : errW (some c) = .iface 0 (.int .i64 c) := rfl

-- the values' own types

end Go.Proofs.Ytonpfbhfcefhcaa.PArpBack
