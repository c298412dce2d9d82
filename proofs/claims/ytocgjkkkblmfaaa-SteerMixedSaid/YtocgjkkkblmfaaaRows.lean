/-
  No cell of these rows narrows 'for every input' (looked for: loops, veiled, ifaces, maps, wideKeys, modest, calm, conditions, laid).
  DERIVED. THE GIVEN ROWS OF THIS SEAT. 5 by the template 'for every input the law returns true; each argument reads behind the call as it read before'; 0 by the template 'total and deterministic' (their statements: YtocgjkkkblmfaaaTotals.lean).
  GIVEN WITH THE SEED: the statements are not yours to turn. If you find one false, say at which input.
  Laid BY PROGRAM, IN A SANDBOX (cutbox-rows.mjs): the forced cells as the released guide's own fill.sh prints them over the translation c4574cbb08608316… (all of the seat's roots in one cut). By AI agents, Wed Nov 11 2026. No macro, syntax, notation, axiom, sorry.
-/
import Derived.Test.YtocgjkkkblmfaaaChecked
import GoSem.Claim
import GoSem.ClaimJoined
import GoSem.ClaimMapViews
import Derived.JoinedTies
import Derived.KernelRfl
namespace Go.Proofs.Ytocgjkkkblmfaaa
/- THE CELL 'sum', in the pinned program and in every row, IS THE sha256 OF THE DUMP (.gsa) THAT YtocgjkkkblmfaaaProg.lean LOADS. Nothing in Lean hashes anything: it is a label: what it is worth is what the hold of that sum in a sandbox is worth. -/
noncomputable def Try.pinned : Pinned := { name := "ytocgjkkkblmfaaa", sum := "c4574cbb08608316d176c43c8665125712657f9252099a728171f89640efba30", checked := Try.checked }
namespace Rows
def none {H : Type} : Left H := { results := [], args := [] }

/-- 'stevedorelaw05.SteerMixed': WHATEVER THE INPUT: true; the input reads as it did. -/
def steerMixedSpec : ChangeSpec := { name := "steerMixed", fn := fun _ => fun
  | [d1, d2, d3] => { results := [.lit (.bool true)], args := [d1, d2, d3] }
  | _ => none }
def steerMixedRow : OpenClaim := { program := "ytocgjkkkblmfaaa", sum := "c4574cbb08608316d176c43c8665125712657f9252099a728171f89640efba30", func := "stevedore/stevedorelaw05.SteerMixed", spec := "steerMixed", apart := false }
def SteerMixedSaid : Prop := steerMixedRow.holds Try.pinned (OpenSpec.ofChange steerMixedSpec)

/-- ITS FALSE NEIGHBOUR: 'it returns false'. Refute it at one input. -/
def steerMixedWrong : ChangeSpec := { name := "steerMixed", fn := fun _ => fun
  | [d1, d2, d3] => { results := [.lit (.bool false)], args := [d1, d2, d3] }
  | _ => none }
def SteerMixedWrongFalsely : Prop := steerMixedRow.holds Try.pinned (OpenSpec.ofChange steerMixedWrong)

/-- 'stevedorelaw05.SteerTables': WHATEVER THE INPUT: true; the input reads as it did. -/
def steerTablesSpec : ChangeSpec := { name := "steerTables", fn := fun _ => fun
  | [d1, d2, d3, d4] => { results := [.lit (.bool true)], args := [d1, d2, d3, d4] }
  | _ => none }
def steerTablesRow : OpenClaim := { program := "ytocgjkkkblmfaaa", sum := "c4574cbb08608316d176c43c8665125712657f9252099a728171f89640efba30", func := "stevedore/stevedorelaw05.SteerTables", spec := "steerTables", apart := false }
def SteerTablesSaid : Prop := steerTablesRow.holds Try.pinned (OpenSpec.ofChange steerTablesSpec)

/-- ITS FALSE NEIGHBOUR: 'it returns false'. Refute it at one input. -/
def steerTablesWrong : ChangeSpec := { name := "steerTables", fn := fun _ => fun
  | [d1, d2, d3, d4] => { results := [.lit (.bool false)], args := [d1, d2, d3, d4] }
  | _ => none }
def SteerTablesWrongFalsely : Prop := steerTablesRow.holds Try.pinned (OpenSpec.ofChange steerTablesWrong)

/-- 'stevedorelaw05.SteerSpreads': WHATEVER THE INPUT: true; the input reads as it did. -/
def steerSpreadsSpec : ChangeSpec := { name := "steerSpreads", fn := fun _ => fun
  | [d1, d2, d3] => { results := [.lit (.bool true)], args := [d1, d2, d3] }
  | _ => none }
def steerSpreadsRow : OpenClaim := { program := "ytocgjkkkblmfaaa", sum := "c4574cbb08608316d176c43c8665125712657f9252099a728171f89640efba30", func := "stevedore/stevedorelaw05.SteerSpreads", spec := "steerSpreads", apart := false }
def SteerSpreadsSaid : Prop := steerSpreadsRow.holds Try.pinned (OpenSpec.ofChange steerSpreadsSpec)

/-- ITS FALSE NEIGHBOUR: 'it returns false'. Refute it at one input. -/
def steerSpreadsWrong : ChangeSpec := { name := "steerSpreads", fn := fun _ => fun
  | [d1, d2, d3] => { results := [.lit (.bool false)], args := [d1, d2, d3] }
  | _ => none }
def SteerSpreadsWrongFalsely : Prop := steerSpreadsRow.holds Try.pinned (OpenSpec.ofChange steerSpreadsWrong)

/-- 'stevedorelaw05.SteerHash': WHATEVER THE INPUT: true; the input reads as it did. -/
def steerHashSpec : ChangeSpec := { name := "steerHash", fn := fun _ => fun
  | [d1, d2, d3] => { results := [.lit (.bool true)], args := [d1, d2, d3] }
  | _ => none }
def steerHashRow : OpenClaim := { program := "ytocgjkkkblmfaaa", sum := "c4574cbb08608316d176c43c8665125712657f9252099a728171f89640efba30", func := "stevedore/stevedorelaw05.SteerHash", spec := "steerHash", apart := false }
def SteerHashSaid : Prop := steerHashRow.holds Try.pinned (OpenSpec.ofChange steerHashSpec)

/-- ITS FALSE NEIGHBOUR: 'it returns false'. Refute it at one input. -/
def steerHashWrong : ChangeSpec := { name := "steerHash", fn := fun _ => fun
  | [d1, d2, d3] => { results := [.lit (.bool false)], args := [d1, d2, d3] }
  | _ => none }
def SteerHashWrongFalsely : Prop := steerHashRow.holds Try.pinned (OpenSpec.ofChange steerHashWrong)

/-- 'stevedorelaw05.SteerTurned': WHATEVER THE INPUT: true; the input reads as it did. -/
def steerTurnedSpec : ChangeSpec := { name := "steerTurned", fn := fun _ => fun
  | [d1, d2, d3] => { results := [.lit (.bool true)], args := [d1, d2, d3] }
  | _ => none }
def steerTurnedRow : OpenClaim := { program := "ytocgjkkkblmfaaa", sum := "c4574cbb08608316d176c43c8665125712657f9252099a728171f89640efba30", func := "stevedore/stevedorelaw05.SteerTurned", spec := "steerTurned", apart := false }
def SteerTurnedSaid : Prop := steerTurnedRow.holds Try.pinned (OpenSpec.ofChange steerTurnedSpec)

/-- ITS FALSE NEIGHBOUR: 'it returns false'. Refute it at one input. -/
def steerTurnedWrong : ChangeSpec := { name := "steerTurned", fn := fun _ => fun
  | [d1, d2, d3] => { results := [.lit (.bool false)], args := [d1, d2, d3] }
  | _ => none }
def SteerTurnedWrongFalsely : Prop := steerTurnedRow.holds Try.pinned (OpenSpec.ofChange steerTurnedWrong)

/- THE SECOND FORM. 'bulk': how many values and letters a reading holds, each counted each time it is reached (what is shared counts as often as it is met; a slice's spare places count too). A statement '..UptoSaid' is the law's where the arguments, and the package variables that the reading takes, are together of bulk at most 1048576: NARROWER than '..Said'. Prove '..Said' where nothing that the law and all that it calls make is longer than what came in: it says more and counts as full. Else prove '..UptoSaid'. A law counts once. -/
mutual
def uptoBulk {H : Type} : DataW H → Nat
  | .lit (.string bytes) => bytes.length + 1
  | .lit _ => 1
  | .nil => 1
  | .ptr d => uptoBulk d + 1
  | .slice elems spare => uptoBulkAll elems + uptoBulkAll spare + 1
  | .agg parts => uptoBulkAll parts + 1
  | .iface _ d => uptoBulk d + 1
  | .map entries => uptoBulkEntries entries + 1
  | .held _ => 1
def uptoBulkAll {H : Type} : List (DataW H) → Nat
  | [] => 0
  | d :: r => uptoBulk d + uptoBulkAll r
def uptoBulkEntries {H : Type} : List (Lit × DataW H) → Nat
  | [] => 0
  | x :: r => uptoBulkEntry x + uptoBulkEntries r
def uptoBulkEntry {H : Type} : Lit × DataW H → Nat
  | (.string bytes, d) => bytes.length + uptoBulk d + 1
  | (_, d) => uptoBulk d + 1
 end
def uptoSmall : (H : Type) → List (DataW H) → Bool := fun _ ds => decide (uptoBulkAll ds ≤ 1048576)
def OpenSpec.upto (s : _root_.Go.ChangeSpec) : _root_.Go.OpenSpec := { _root_.Go.OpenSpec.ofChange s with cond := some uptoSmall }

/-- 'stevedorelaw05.SteerMixed', WHERE WHAT IT READS IS OF BULK AT MOST 1048576: true; the input reads as it did. -/
def steerMixedUptoRow : OpenClaim := { program := "ytocgjkkkblmfaaa", sum := "c4574cbb08608316d176c43c8665125712657f9252099a728171f89640efba30", func := "stevedore/stevedorelaw05.SteerMixed", spec := "steerMixed", apart := false, narrowed := true }
def SteerMixedUptoSaid : Prop := steerMixedUptoRow.holds Try.pinned (OpenSpec.upto steerMixedSpec)

/-- 'stevedorelaw05.SteerTables', WHERE WHAT IT READS IS OF BULK AT MOST 1048576: true; the input reads as it did. -/
def steerTablesUptoRow : OpenClaim := { program := "ytocgjkkkblmfaaa", sum := "c4574cbb08608316d176c43c8665125712657f9252099a728171f89640efba30", func := "stevedore/stevedorelaw05.SteerTables", spec := "steerTables", apart := false, narrowed := true }
def SteerTablesUptoSaid : Prop := steerTablesUptoRow.holds Try.pinned (OpenSpec.upto steerTablesSpec)

/-- 'stevedorelaw05.SteerSpreads', WHERE WHAT IT READS IS OF BULK AT MOST 1048576: true; the input reads as it did. -/
def steerSpreadsUptoRow : OpenClaim := { program := "ytocgjkkkblmfaaa", sum := "c4574cbb08608316d176c43c8665125712657f9252099a728171f89640efba30", func := "stevedore/stevedorelaw05.SteerSpreads", spec := "steerSpreads", apart := false, narrowed := true }
def SteerSpreadsUptoSaid : Prop := steerSpreadsUptoRow.holds Try.pinned (OpenSpec.upto steerSpreadsSpec)

/-- 'stevedorelaw05.SteerHash', WHERE WHAT IT READS IS OF BULK AT MOST 1048576: true; the input reads as it did. -/
def steerHashUptoRow : OpenClaim := { program := "ytocgjkkkblmfaaa", sum := "c4574cbb08608316d176c43c8665125712657f9252099a728171f89640efba30", func := "stevedore/stevedorelaw05.SteerHash", spec := "steerHash", apart := false, narrowed := true }
def SteerHashUptoSaid : Prop := steerHashUptoRow.holds Try.pinned (OpenSpec.upto steerHashSpec)

/-- 'stevedorelaw05.SteerTurned', WHERE WHAT IT READS IS OF BULK AT MOST 1048576: true; the input reads as it did. -/
def steerTurnedUptoRow : OpenClaim := { program := "ytocgjkkkblmfaaa", sum := "c4574cbb08608316d176c43c8665125712657f9252099a728171f89640efba30", func := "stevedore/stevedorelaw05.SteerTurned", spec := "steerTurned", apart := false, narrowed := true }
def SteerTurnedUptoSaid : Prop := steerTurnedUptoRow.holds Try.pinned (OpenSpec.upto steerTurnedSpec)

end Rows
end Go.Proofs.Ytocgjkkkblmfaaa
