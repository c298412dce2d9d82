/-
  No cell of these rows narrows 'for every input' (looked for: loops, veiled, ifaces, maps, wideKeys, modest, calm, conditions, laid).
  DERIVED. THE GIVEN ROWS OF THIS SEAT. 5 by the template 'for every input the law returns true; each argument reads behind the call as it read before'; 0 by the template 'total and deterministic' (their statements: YtggfjnicofgohaaTotals.lean).
  GIVEN WITH THE SEED: the statements are not yours to turn. If you find one false, say at which input.
  Laid BY PROGRAM, IN A SANDBOX (cutbox-rows.mjs): the forced cells as the released guide's own fill.sh prints them over the translation 1f88a2187e4c7a6f… (all of the seat's roots in one cut). By AI agents, Wed Nov 11 2026. No macro, syntax, notation, axiom, sorry.
-/
import Derived.Test.YtggfjnicofgohaaChecked
import GoSem.Claim
import GoSem.ClaimJoined
import GoSem.ClaimMapViews
import Derived.JoinedTies
import Derived.KernelRfl
namespace Go.Proofs.Ytggfjnicofgohaa
/- THE CELL 'sum', in the pinned program and in every row, IS THE sha256 OF THE DUMP (.gsa) THAT YtggfjnicofgohaaProg.lean LOADS. Nothing in Lean hashes anything: it is a label: what it is worth is what the hold of that sum in a sandbox is worth. -/
noncomputable def Try.pinned : Pinned := { name := "ytggfjnicofgohaa", sum := "1f88a2187e4c7a6fd1b97d55b753d0c659bcc1e1e5eb71ce90b4849633ae361f", checked := Try.checked }
namespace Rows
def none {H : Type} : Left H := { results := [], args := [] }

/-- 'stevedorelaw21.SoftOrder': WHATEVER THE INPUT: true; the input reads as it did. -/
def softOrderSpec : ChangeSpec := { name := "softOrder", fn := fun _ => fun
  | [d1, d2, d3] => { results := [.lit (.bool true)], args := [d1, d2, d3] }
  | _ => none }
def softOrderRow : OpenClaim := { program := "ytggfjnicofgohaa", sum := "1f88a2187e4c7a6fd1b97d55b753d0c659bcc1e1e5eb71ce90b4849633ae361f", func := "stevedore/stevedorelaw21.SoftOrder", spec := "softOrder", apart := false }
def SoftOrderSaid : Prop := softOrderRow.holds Try.pinned (OpenSpec.ofChange softOrderSpec)

/-- ITS FALSE NEIGHBOUR: 'it returns false'. Refute it at one input. -/
def softOrderWrong : ChangeSpec := { name := "softOrder", fn := fun _ => fun
  | [d1, d2, d3] => { results := [.lit (.bool false)], args := [d1, d2, d3] }
  | _ => none }
def SoftOrderWrongFalsely : Prop := softOrderRow.holds Try.pinned (OpenSpec.ofChange softOrderWrong)

/-- 'stevedorelaw21.SoftOn': WHATEVER THE INPUT: true; the input reads as it did. -/
def softOnSpec : ChangeSpec := { name := "softOn", fn := fun _ => fun
  | [d1, d2, d3] => { results := [.lit (.bool true)], args := [d1, d2, d3] }
  | _ => none }
def softOnRow : OpenClaim := { program := "ytggfjnicofgohaa", sum := "1f88a2187e4c7a6fd1b97d55b753d0c659bcc1e1e5eb71ce90b4849633ae361f", func := "stevedore/stevedorelaw21.SoftOn", spec := "softOn", apart := false }
def SoftOnSaid : Prop := softOnRow.holds Try.pinned (OpenSpec.ofChange softOnSpec)

/-- ITS FALSE NEIGHBOUR: 'it returns false'. Refute it at one input. -/
def softOnWrong : ChangeSpec := { name := "softOn", fn := fun _ => fun
  | [d1, d2, d3] => { results := [.lit (.bool false)], args := [d1, d2, d3] }
  | _ => none }
def SoftOnWrongFalsely : Prop := softOnRow.holds Try.pinned (OpenSpec.ofChange softOnWrong)

/-- 'stevedorelaw21.SoftPlays': WHATEVER THE INPUT: true; the input reads as it did. -/
def softPlaysSpec : ChangeSpec := { name := "softPlays", fn := fun _ => fun
  | [d1, d2, d3] => { results := [.lit (.bool true)], args := [d1, d2, d3] }
  | _ => none }
def softPlaysRow : OpenClaim := { program := "ytggfjnicofgohaa", sum := "1f88a2187e4c7a6fd1b97d55b753d0c659bcc1e1e5eb71ce90b4849633ae361f", func := "stevedore/stevedorelaw21.SoftPlays", spec := "softPlays", apart := false }
def SoftPlaysSaid : Prop := softPlaysRow.holds Try.pinned (OpenSpec.ofChange softPlaysSpec)

/-- ITS FALSE NEIGHBOUR: 'it returns false'. Refute it at one input. -/
def softPlaysWrong : ChangeSpec := { name := "softPlays", fn := fun _ => fun
  | [d1, d2, d3] => { results := [.lit (.bool false)], args := [d1, d2, d3] }
  | _ => none }
def SoftPlaysWrongFalsely : Prop := softPlaysRow.holds Try.pinned (OpenSpec.ofChange softPlaysWrong)

/-- 'stevedorelaw21.SoftFull': WHATEVER THE INPUT: true; the input reads as it did. -/
def softFullSpec : ChangeSpec := { name := "softFull", fn := fun _ => fun
  | [d1, d2] => { results := [.lit (.bool true)], args := [d1, d2] }
  | _ => none }
def softFullRow : OpenClaim := { program := "ytggfjnicofgohaa", sum := "1f88a2187e4c7a6fd1b97d55b753d0c659bcc1e1e5eb71ce90b4849633ae361f", func := "stevedore/stevedorelaw21.SoftFull", spec := "softFull", apart := false }
def SoftFullSaid : Prop := softFullRow.holds Try.pinned (OpenSpec.ofChange softFullSpec)

/-- ITS FALSE NEIGHBOUR: 'it returns false'. Refute it at one input. -/
def softFullWrong : ChangeSpec := { name := "softFull", fn := fun _ => fun
  | [d1, d2] => { results := [.lit (.bool false)], args := [d1, d2] }
  | _ => none }
def SoftFullWrongFalsely : Prop := softFullRow.holds Try.pinned (OpenSpec.ofChange softFullWrong)

/-- 'stevedorelaw21.SoftNone': WHATEVER THE INPUT: true; the input reads as it did. -/
def softNoneSpec : ChangeSpec := { name := "softNone", fn := fun _ => fun
  | [d1, d2] => { results := [.lit (.bool true)], args := [d1, d2] }
  | _ => none }
def softNoneRow : OpenClaim := { program := "ytggfjnicofgohaa", sum := "1f88a2187e4c7a6fd1b97d55b753d0c659bcc1e1e5eb71ce90b4849633ae361f", func := "stevedore/stevedorelaw21.SoftNone", spec := "softNone", apart := false }
def SoftNoneSaid : Prop := softNoneRow.holds Try.pinned (OpenSpec.ofChange softNoneSpec)

/-- ITS FALSE NEIGHBOUR: 'it returns false'. Refute it at one input. -/
def softNoneWrong : ChangeSpec := { name := "softNone", fn := fun _ => fun
  | [d1, d2] => { results := [.lit (.bool false)], args := [d1, d2] }
  | _ => none }
def SoftNoneWrongFalsely : Prop := softNoneRow.holds Try.pinned (OpenSpec.ofChange softNoneWrong)

/- THE SECOND FORM. 'bulk': how many values and letters a reading holds, each counted each time it is reached (what is shared counts as often as it is met; a slice's spare places count too). A statement '..UptoSaid' is the law's where the arguments, and the package variables that the reading takes, are together of bulk at most 1048576: NARROWER than '..Said'. Prove '..Said' where nothing that the law and all that it calls make is longer than what came in: it says more and counts as full. Else prove '..UptoSaid'. A law counts once. -/
mutual
def uptoBulk {H : Type} : DataW H → Nat
  | .lit (.string bytes) => bytes.length + 1
  | .lit _ => 1
  | .nil => 1
  | .ptr d => uptoBulk d + 1
  | .slice elems spare => uptoBulkAll elems + uptoBulkAll spare + 1
  | .agg parts => uptoBulkAll parts + 1
  | .iface _ d => uptoBulk d + 1
  | .map entries => uptoBulkEntries entries + 1
  | .held _ => 1
def uptoBulkAll {H : Type} : List (DataW H) → Nat
  | [] => 0
  | d :: r => uptoBulk d + uptoBulkAll r
def uptoBulkEntries {H : Type} : List (Lit × DataW H) → Nat
  | [] => 0
  | x :: r => uptoBulkEntry x + uptoBulkEntries r
def uptoBulkEntry {H : Type} : Lit × DataW H → Nat
  | (.string bytes, d) => bytes.length + uptoBulk d + 1
  | (_, d) => uptoBulk d + 1
 end
def uptoSmall : (H : Type) → List (DataW H) → Bool := fun _ ds => decide (uptoBulkAll ds ≤ 1048576)
def OpenSpec.upto (s : _root_.Go.ChangeSpec) : _root_.Go.OpenSpec := { _root_.Go.OpenSpec.ofChange s with cond := some uptoSmall }

/-- 'stevedorelaw21.SoftOrder', WHERE WHAT IT READS IS OF BULK AT MOST 1048576: true; the input reads as it did. -/
def softOrderUptoRow : OpenClaim := { program := "ytggfjnicofgohaa", sum := "1f88a2187e4c7a6fd1b97d55b753d0c659bcc1e1e5eb71ce90b4849633ae361f", func := "stevedore/stevedorelaw21.SoftOrder", spec := "softOrder", apart := false, narrowed := true }
def SoftOrderUptoSaid : Prop := softOrderUptoRow.holds Try.pinned (OpenSpec.upto softOrderSpec)

/-- 'stevedorelaw21.SoftOn', WHERE WHAT IT READS IS OF BULK AT MOST 1048576: true; the input reads as it did. -/
def softOnUptoRow : OpenClaim := { program := "ytggfjnicofgohaa", sum := "1f88a2187e4c7a6fd1b97d55b753d0c659bcc1e1e5eb71ce90b4849633ae361f", func := "stevedore/stevedorelaw21.SoftOn", spec := "softOn", apart := false, narrowed := true }
def SoftOnUptoSaid : Prop := softOnUptoRow.holds Try.pinned (OpenSpec.upto softOnSpec)

/-- 'stevedorelaw21.SoftPlays', WHERE WHAT IT READS IS OF BULK AT MOST 1048576: true; the input reads as it did. -/
def softPlaysUptoRow : OpenClaim := { program := "ytggfjnicofgohaa", sum := "1f88a2187e4c7a6fd1b97d55b753d0c659bcc1e1e5eb71ce90b4849633ae361f", func := "stevedore/stevedorelaw21.SoftPlays", spec := "softPlays", apart := false, narrowed := true }
def SoftPlaysUptoSaid : Prop := softPlaysUptoRow.holds Try.pinned (OpenSpec.upto softPlaysSpec)

/-- 'stevedorelaw21.SoftFull', WHERE WHAT IT READS IS OF BULK AT MOST 1048576: true; the input reads as it did. -/
def softFullUptoRow : OpenClaim := { program := "ytggfjnicofgohaa", sum := "1f88a2187e4c7a6fd1b97d55b753d0c659bcc1e1e5eb71ce90b4849633ae361f", func := "stevedore/stevedorelaw21.SoftFull", spec := "softFull", apart := false, narrowed := true }
def SoftFullUptoSaid : Prop := softFullUptoRow.holds Try.pinned (OpenSpec.upto softFullSpec)

/-- 'stevedorelaw21.SoftNone', WHERE WHAT IT READS IS OF BULK AT MOST 1048576: true; the input reads as it did. -/
def softNoneUptoRow : OpenClaim := { program := "ytggfjnicofgohaa", sum := "1f88a2187e4c7a6fd1b97d55b753d0c659bcc1e1e5eb71ce90b4849633ae361f", func := "stevedore/stevedorelaw21.SoftNone", spec := "softNone", apart := false, narrowed := true }
def SoftNoneUptoSaid : Prop := softNoneUptoRow.holds Try.pinned (OpenSpec.upto softNoneSpec)

end Rows
end Go.Proofs.Ytggfjnicofgohaa
