-- Laid by a program of this session: the print tool's way, with this session's own walks of some functions laid in.
import Derived.Test.YtocgjkkkblmfaaaProg
import Derived.Below
import Derived.Deep.Draws
import Derived.Deep.AppendLies
import Derived.Maps.AppendAt
import Derived.OwnWalk
import Derived.Laws.BytesArg
import Derived.Laws.MakeOwn
import Derived.Laws.OwnMore
import Derived.Deep.OwnRows
import Derived.Tactics
import Derived.Lib.ConvBytes
import Derived.Laws.Slices
import Derived.WalkKit
import Derived.KernelRfl
import Derived.RowKit3
import Derived.Deep.LoopGhost
import Derived.Deep.QuietTactic
import Derived.BigQuiet
import Derived.WideLaws
import Derived.Deep.DeepCutAuto
import Derived.Deep.CutBlock
import Derived.Deep.RegionHeld3
import Derived.Laws.Rows
import Derived.Lib.AppendStr
import Derived.ArgAppend
import Derived.Laws.IdiomCopy
import Derived.OrdersHeld
import Derived.Laws.BitsLemmas
import Derived.RowKit
import Derived.FnLit
import Derived.Lib.Hide
import Derived.Test.YtocgjkkkblmfaaaAid
import Derived.Test.YtocgjkkkblmfaaaSt2
import Derived.Test.YtocgjkkkblmfaaaTx
import Derived.Test.YtocgjkkkblmfaaaWWords
import Derived.Test.YtocgjkkkblmfaaaWLast
import Derived.Test.YtocgjkkkblmfaaaWTab
import Derived.Test.YtocgjkkkblmfaaaWFour
import Derived.Test.YtocgjkkkblmfaaaWQPut
import Derived.Test.YtocgjkkkblmfaaaWApart
import Derived.Test.YtocgjkkkblmfaaaWArr
import Derived.Test.YtocgjkkkblmfaaaWZeros
import Derived.Test.YtocgjkkkblmfaaaWFoot
import Derived.Test.YtocgjkkkblmfaaaWKept
import Derived.Test.YtocgjkkkblmfaaaWShare
import Derived.Test.YtocgjkkkblmfaaaWN
import Derived.Test.YtocgjkkkblmfaaaWFootNe
import Derived.Test.YtocgjkkkblmfaaaWAt
import Derived.Test.YtocgjkkkblmfaaaWEqStruct
import Derived.Test.YtocgjkkkblmfaaaWRepsOne
import Derived.Test.YtocgjkkkblmfaaaWInv
import Derived.Test.YtocgjkkkblmfaaaWInvWords
import Derived.Test.YtocgjkkkblmfaaaWGuard
import Derived.Test.YtocgjkkkblmfaaaWNEv
import Derived.Test.YtocgjkkkblmfaaaWMore
namespace Go.Proofs.Ytocgjkkkblmfaaa.PSteerMixed
open Go.RowKit Go.Proofs.YtocgjkkkblmfaaaW.PrintWords Go.Proofs.YtocgjkkkblmfaaaW.PrintLast Go.Proofs.YtocgjkkkblmfaaaW.PrintMore
attribute [local go_sem] max2_int min2_int max_two min_two max_three min_three max_four min_four   -- for this text's walks alone
set_option linter.unusedVariables false
set_option linter.unusedSimpArgs false



def errW : Option Int → Value
  | none => .nilIface
  | some c => .iface 0 (.int .i64 c)
theorem errW_none : errW none = .nilIface := rfl
theorem errW_some (c : Int) : errW (some c) = .iface 0 (.int .i64 c) := rfl

theorem info3 : (Try.prog.info? 3).map (fun i => (i.zero, i.size, i.bytes)) = some (some (.int .i64 0), 1, 8) := by kernel_rfl
theorem info5 : (Try.prog.info? 5).map (fun i => (i.zero, i.size, i.bytes)) = some (some (.int .u8 0), 1, 1) := by kernel_rfl
-- the values' own types

end Go.Proofs.Ytocgjkkkblmfaaa.PSteerMixed
