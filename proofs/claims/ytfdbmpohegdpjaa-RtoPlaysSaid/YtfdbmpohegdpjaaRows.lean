/-
  No cell of these rows narrows 'for every input' (looked for: loops, veiled, ifaces, maps, wideKeys, modest, calm, conditions, laid).
  DERIVED. THE GIVEN ROWS OF THIS SEAT. 4 by the template 'for every input the law returns true; each argument reads behind the call as it read before'; 0 by the template 'total and deterministic' (their statements: YtfdbmpohegdpjaaTotals.lean).
  GIVEN WITH THE SEED: the statements are not yours to turn. If you find one false, say at which input.
  Laid BY PROGRAM, IN A SANDBOX (cutbox-rows.mjs): the forced cells as the released guide's own fill.sh prints them over the translation 7b5e2d331bdb64ba… (all of the seat's roots in one cut). By AI agents, Wed Nov 11 2026. No macro, syntax, notation, axiom, sorry.
-/
import Derived.Test.YtfdbmpohegdpjaaChecked
import GoSem.Claim
import GoSem.ClaimJoined
import GoSem.ClaimMapViews
import Derived.JoinedTies
import Derived.KernelRfl
namespace Go.Proofs.Ytfdbmpohegdpjaa
/- THE CELL 'sum', in the pinned program and in every row, IS THE sha256 OF THE DUMP (.gsa) THAT YtfdbmpohegdpjaaProg.lean LOADS. Nothing in Lean hashes anything: it is a label: what it is worth is what the hold of that sum in a sandbox is worth. -/
noncomputable def Try.pinned : Pinned := { name := "ytfdbmpohegdpjaa", sum := "7b5e2d331bdb64baa6e36d4048147a03ab9796b18d65944966efa2c80c37ced4", checked := Try.checked }
namespace Rows
def none {H : Type} : Left H := { results := [], args := [] }

/-- 'stevedorelaw24.RtoPlays': WHATEVER THE INPUT: true; the input reads as it did. -/
def rtoPlaysSpec : ChangeSpec := { name := "rtoPlays", fn := fun _ => fun
  | [d] => { results := [.lit (.bool true)], args := [d] }
  | _ => none }
def rtoPlaysRow : OpenClaim := { program := "ytfdbmpohegdpjaa", sum := "7b5e2d331bdb64baa6e36d4048147a03ab9796b18d65944966efa2c80c37ced4", func := "stevedore/stevedorelaw24.RtoPlays", spec := "rtoPlays", unfollowed := true, recurses := true, apart := false }
def RtoPlaysSaid : Prop := rtoPlaysRow.holds Try.pinned (OpenSpec.ofChange rtoPlaysSpec)

/-- ITS FALSE NEIGHBOUR: 'it returns false'. Refute it at one input. -/
def rtoPlaysWrong : ChangeSpec := { name := "rtoPlays", fn := fun _ => fun
  | [d] => { results := [.lit (.bool false)], args := [d] }
  | _ => none }
def RtoPlaysWrongFalsely : Prop := rtoPlaysRow.holds Try.pinned (OpenSpec.ofChange rtoPlaysWrong)

/-- 'stevedorelaw24.RtoBounds': WHATEVER THE INPUT: true; the input reads as it did. -/
def rtoBoundsSpec : ChangeSpec := { name := "rtoBounds", fn := fun _ => fun
  | [d1, d2, d3] => { results := [.lit (.bool true)], args := [d1, d2, d3] }
  | _ => none }
def rtoBoundsRow : OpenClaim := { program := "ytfdbmpohegdpjaa", sum := "7b5e2d331bdb64baa6e36d4048147a03ab9796b18d65944966efa2c80c37ced4", func := "stevedore/stevedorelaw24.RtoBounds", spec := "rtoBounds", unfollowed := true, recurses := true, apart := false }
def RtoBoundsSaid : Prop := rtoBoundsRow.holds Try.pinned (OpenSpec.ofChange rtoBoundsSpec)

/-- ITS FALSE NEIGHBOUR: 'it returns false'. Refute it at one input. -/
def rtoBoundsWrong : ChangeSpec := { name := "rtoBounds", fn := fun _ => fun
  | [d1, d2, d3] => { results := [.lit (.bool false)], args := [d1, d2, d3] }
  | _ => none }
def RtoBoundsWrongFalsely : Prop := rtoBoundsRow.holds Try.pinned (OpenSpec.ofChange rtoBoundsWrong)

/-- 'stevedorelaw24.RtoMean': WHATEVER THE INPUT: true; the input reads as it did. -/
def rtoMeanSpec : ChangeSpec := { name := "rtoMean", fn := fun _ => fun
  | [d1, d2] => { results := [.lit (.bool true)], args := [d1, d2] }
  | _ => none }
def rtoMeanRow : OpenClaim := { program := "ytfdbmpohegdpjaa", sum := "7b5e2d331bdb64baa6e36d4048147a03ab9796b18d65944966efa2c80c37ced4", func := "stevedore/stevedorelaw24.RtoMean", spec := "rtoMean", unfollowed := true, recurses := true, apart := false }
def RtoMeanSaid : Prop := rtoMeanRow.holds Try.pinned (OpenSpec.ofChange rtoMeanSpec)

/-- ITS FALSE NEIGHBOUR: 'it returns false'. Refute it at one input. -/
def rtoMeanWrong : ChangeSpec := { name := "rtoMean", fn := fun _ => fun
  | [d1, d2] => { results := [.lit (.bool false)], args := [d1, d2] }
  | _ => none }
def RtoMeanWrongFalsely : Prop := rtoMeanRow.holds Try.pinned (OpenSpec.ofChange rtoMeanWrong)

/-- 'stevedorelaw24.RtoNil': WHATEVER THE INPUT: true; the input reads as it did. -/
def rtoNilSpec : ChangeSpec := { name := "rtoNil", fn := fun _ => fun
  | [d] => { results := [.lit (.bool true)], args := [d] }
  | _ => none }
def rtoNilRow : OpenClaim := { program := "ytfdbmpohegdpjaa", sum := "7b5e2d331bdb64baa6e36d4048147a03ab9796b18d65944966efa2c80c37ced4", func := "stevedore/stevedorelaw24.RtoNil", spec := "rtoNil", unfollowed := true, recurses := true, apart := false }
def RtoNilSaid : Prop := rtoNilRow.holds Try.pinned (OpenSpec.ofChange rtoNilSpec)

/-- ITS FALSE NEIGHBOUR: 'it returns false'. Refute it at one input. -/
def rtoNilWrong : ChangeSpec := { name := "rtoNil", fn := fun _ => fun
  | [d] => { results := [.lit (.bool false)], args := [d] }
  | _ => none }
def RtoNilWrongFalsely : Prop := rtoNilRow.holds Try.pinned (OpenSpec.ofChange rtoNilWrong)

/- THE SECOND FORM. 'bulk': how many values and letters a reading holds, each counted each time it is reached (what is shared counts as often as it is met; a slice's spare places count too). A statement '..UptoSaid' is the law's where the arguments, and the package variables that the reading takes, are together of bulk at most 1048576: NARROWER than '..Said'. Prove '..Said' where nothing that the law and all that it calls make is longer than what came in: it says more and counts as full. Else prove '..UptoSaid'. A law counts once. -/
mutual
def uptoBulk {H : Type} : DataW H → Nat
  | .lit (.string bytes) => bytes.length + 1
  | .lit _ => 1
  | .nil => 1
  | .ptr d => uptoBulk d + 1
  | .slice elems spare => uptoBulkAll elems + uptoBulkAll spare + 1
  | .agg parts => uptoBulkAll parts + 1
  | .iface _ d => uptoBulk d + 1
  | .map entries => uptoBulkEntries entries + 1
  | .held _ => 1
def uptoBulkAll {H : Type} : List (DataW H) → Nat
  | [] => 0
  | d :: r => uptoBulk d + uptoBulkAll r
def uptoBulkEntries {H : Type} : List (Lit × DataW H) → Nat
  | [] => 0
  | x :: r => uptoBulkEntry x + uptoBulkEntries r
def uptoBulkEntry {H : Type} : Lit × DataW H → Nat
  | (.string bytes, d) => bytes.length + uptoBulk d + 1
  | (_, d) => uptoBulk d + 1
 end
def uptoSmall : (H : Type) → List (DataW H) → Bool := fun _ ds => decide (uptoBulkAll ds ≤ 1048576)
def OpenSpec.upto (s : _root_.Go.ChangeSpec) : _root_.Go.OpenSpec := { _root_.Go.OpenSpec.ofChange s with cond := some uptoSmall }

/-- 'stevedorelaw24.RtoPlays', WHERE WHAT IT READS IS OF BULK AT MOST 1048576: true; the input reads as it did. -/
def rtoPlaysUptoRow : OpenClaim := { program := "ytfdbmpohegdpjaa", sum := "7b5e2d331bdb64baa6e36d4048147a03ab9796b18d65944966efa2c80c37ced4", func := "stevedore/stevedorelaw24.RtoPlays", spec := "rtoPlays", unfollowed := true, recurses := true, apart := false, narrowed := true }
def RtoPlaysUptoSaid : Prop := rtoPlaysUptoRow.holds Try.pinned (OpenSpec.upto rtoPlaysSpec)

/-- 'stevedorelaw24.RtoBounds', WHERE WHAT IT READS IS OF BULK AT MOST 1048576: true; the input reads as it did. -/
def rtoBoundsUptoRow : OpenClaim := { program := "ytfdbmpohegdpjaa", sum := "7b5e2d331bdb64baa6e36d4048147a03ab9796b18d65944966efa2c80c37ced4", func := "stevedore/stevedorelaw24.RtoBounds", spec := "rtoBounds", unfollowed := true, recurses := true, apart := false, narrowed := true }
def RtoBoundsUptoSaid : Prop := rtoBoundsUptoRow.holds Try.pinned (OpenSpec.upto rtoBoundsSpec)

/-- 'stevedorelaw24.RtoMean', WHERE WHAT IT READS IS OF BULK AT MOST 1048576: true; the input reads as it did. -/
def rtoMeanUptoRow : OpenClaim := { program := "ytfdbmpohegdpjaa", sum := "7b5e2d331bdb64baa6e36d4048147a03ab9796b18d65944966efa2c80c37ced4", func := "stevedore/stevedorelaw24.RtoMean", spec := "rtoMean", unfollowed := true, recurses := true, apart := false, narrowed := true }
def RtoMeanUptoSaid : Prop := rtoMeanUptoRow.holds Try.pinned (OpenSpec.upto rtoMeanSpec)

/-- 'stevedorelaw24.RtoNil', WHERE WHAT IT READS IS OF BULK AT MOST 1048576: true; the input reads as it did. -/
def rtoNilUptoRow : OpenClaim := { program := "ytfdbmpohegdpjaa", sum := "7b5e2d331bdb64baa6e36d4048147a03ab9796b18d65944966efa2c80c37ced4", func := "stevedore/stevedorelaw24.RtoNil", spec := "rtoNil", unfollowed := true, recurses := true, apart := false, narrowed := true }
def RtoNilUptoSaid : Prop := rtoNilUptoRow.holds Try.pinned (OpenSpec.upto rtoNilSpec)

end Rows
end Go.Proofs.Ytfdbmpohegdpjaa
