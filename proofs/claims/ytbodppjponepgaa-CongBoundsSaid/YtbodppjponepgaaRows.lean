/-
  No cell of these rows narrows 'for every input' (looked for: loops, veiled, ifaces, maps, wideKeys, modest, calm, conditions, laid).
  DERIVED. THE GIVEN ROWS OF THIS SEAT. 5 by the template 'for every input the law returns true; each argument reads behind the call as it read before'; 0 by the template 'total and deterministic' (their statements: YtbodppjponepgaaTotals.lean).
  GIVEN WITH THE SEED: the statements are not yours to turn. If you find one false, say at which input.
  Laid BY PROGRAM, IN A SANDBOX (cutbox-rows.mjs): the forced cells as the released guide's own fill.sh prints them over the translation 5cf80acca29e6df8… (all of the seat's roots in one cut). By AI agents, Wed Nov 11 2026. No macro, syntax, notation, axiom, sorry.
-/
import Derived.Test.YtbodppjponepgaaChecked
import GoSem.Claim
import GoSem.ClaimJoined
import GoSem.ClaimMapViews
import Derived.JoinedTies
import Derived.KernelRfl
namespace Go.Proofs.Ytbodppjponepgaa
/- THE CELL 'sum', in the pinned program and in every row, IS THE sha256 OF THE DUMP (.gsa) THAT YtbodppjponepgaaProg.lean LOADS. Nothing in Lean hashes anything: it is a label: what it is worth is what the hold of that sum in a sandbox is worth. -/
noncomputable def Try.pinned : Pinned := { name := "ytbodppjponepgaa", sum := "5cf80acca29e6df8b20ce4cd64764abb1bae4e6c5713acf56394fee07dd59e4f", checked := Try.checked }
namespace Rows
def none {H : Type} : Left H := { results := [], args := [] }

/-- 'stevedorelaw25.CongOnce': WHATEVER THE INPUT: true; the input reads as it did. -/
def congOnceSpec : ChangeSpec := { name := "congOnce", fn := fun _ => fun
  | [d1, d2, d3, d4, d5] => { results := [.lit (.bool true)], args := [d1, d2, d3, d4, d5] }
  | _ => none }
def congOnceRow : OpenClaim := { program := "ytbodppjponepgaa", sum := "5cf80acca29e6df8b20ce4cd64764abb1bae4e6c5713acf56394fee07dd59e4f", func := "stevedore/stevedorelaw25.CongOnce", spec := "congOnce", unfollowed := true, recurses := true, apart := false }
def CongOnceSaid : Prop := congOnceRow.holds Try.pinned (OpenSpec.ofChange congOnceSpec)

/-- ITS FALSE NEIGHBOUR: 'it returns false'. Refute it at one input. -/
def congOnceWrong : ChangeSpec := { name := "congOnce", fn := fun _ => fun
  | [d1, d2, d3, d4, d5] => { results := [.lit (.bool false)], args := [d1, d2, d3, d4, d5] }
  | _ => none }
def CongOnceWrongFalsely : Prop := congOnceRow.holds Try.pinned (OpenSpec.ofChange congOnceWrong)

/-- 'stevedorelaw25.CongPlays': WHATEVER THE INPUT: true; the input reads as it did. -/
def congPlaysSpec : ChangeSpec := { name := "congPlays", fn := fun _ => fun
  | [d1, d2] => { results := [.lit (.bool true)], args := [d1, d2] }
  | _ => none }
def congPlaysRow : OpenClaim := { program := "ytbodppjponepgaa", sum := "5cf80acca29e6df8b20ce4cd64764abb1bae4e6c5713acf56394fee07dd59e4f", func := "stevedore/stevedorelaw25.CongPlays", spec := "congPlays", unfollowed := true, recurses := true, apart := false }
def CongPlaysSaid : Prop := congPlaysRow.holds Try.pinned (OpenSpec.ofChange congPlaysSpec)

/-- ITS FALSE NEIGHBOUR: 'it returns false'. Refute it at one input. -/
def congPlaysWrong : ChangeSpec := { name := "congPlays", fn := fun _ => fun
  | [d1, d2] => { results := [.lit (.bool false)], args := [d1, d2] }
  | _ => none }
def CongPlaysWrongFalsely : Prop := congPlaysRow.holds Try.pinned (OpenSpec.ofChange congPlaysWrong)

/-- 'stevedorelaw25.CongBounds': WHATEVER THE INPUT: true; the input reads as it did. -/
def congBoundsSpec : ChangeSpec := { name := "congBounds", fn := fun _ => fun
  | [d1, d2] => { results := [.lit (.bool true)], args := [d1, d2] }
  | _ => none }
def congBoundsRow : OpenClaim := { program := "ytbodppjponepgaa", sum := "5cf80acca29e6df8b20ce4cd64764abb1bae4e6c5713acf56394fee07dd59e4f", func := "stevedore/stevedorelaw25.CongBounds", spec := "congBounds", unfollowed := true, recurses := true, apart := false }
def CongBoundsSaid : Prop := congBoundsRow.holds Try.pinned (OpenSpec.ofChange congBoundsSpec)

/-- ITS FALSE NEIGHBOUR: 'it returns false'. Refute it at one input. -/
def congBoundsWrong : ChangeSpec := { name := "congBounds", fn := fun _ => fun
  | [d1, d2] => { results := [.lit (.bool false)], args := [d1, d2] }
  | _ => none }
def CongBoundsWrongFalsely : Prop := congBoundsRow.holds Try.pinned (OpenSpec.ofChange congBoundsWrong)

/-- 'stevedorelaw25.CongGrows': WHATEVER THE INPUT: true; the input reads as it did. -/
def congGrowsSpec : ChangeSpec := { name := "congGrows", fn := fun _ => fun
  | [d1, d2] => { results := [.lit (.bool true)], args := [d1, d2] }
  | _ => none }
def congGrowsRow : OpenClaim := { program := "ytbodppjponepgaa", sum := "5cf80acca29e6df8b20ce4cd64764abb1bae4e6c5713acf56394fee07dd59e4f", func := "stevedore/stevedorelaw25.CongGrows", spec := "congGrows", unfollowed := true, recurses := true, apart := false }
def CongGrowsSaid : Prop := congGrowsRow.holds Try.pinned (OpenSpec.ofChange congGrowsSpec)

/-- ITS FALSE NEIGHBOUR: 'it returns false'. Refute it at one input. -/
def congGrowsWrong : ChangeSpec := { name := "congGrows", fn := fun _ => fun
  | [d1, d2] => { results := [.lit (.bool false)], args := [d1, d2] }
  | _ => none }
def CongGrowsWrongFalsely : Prop := congGrowsRow.holds Try.pinned (OpenSpec.ofChange congGrowsWrong)

/-- 'stevedorelaw25.CongNil': WHATEVER THE INPUT: true; the input reads as it did. -/
def congNilSpec : ChangeSpec := { name := "congNil", fn := fun _ => fun
  | [d1, d2] => { results := [.lit (.bool true)], args := [d1, d2] }
  | _ => none }
def congNilRow : OpenClaim := { program := "ytbodppjponepgaa", sum := "5cf80acca29e6df8b20ce4cd64764abb1bae4e6c5713acf56394fee07dd59e4f", func := "stevedore/stevedorelaw25.CongNil", spec := "congNil", unfollowed := true, recurses := true, apart := false }
def CongNilSaid : Prop := congNilRow.holds Try.pinned (OpenSpec.ofChange congNilSpec)

/-- ITS FALSE NEIGHBOUR: 'it returns false'. Refute it at one input. -/
def congNilWrong : ChangeSpec := { name := "congNil", fn := fun _ => fun
  | [d1, d2] => { results := [.lit (.bool false)], args := [d1, d2] }
  | _ => none }
def CongNilWrongFalsely : Prop := congNilRow.holds Try.pinned (OpenSpec.ofChange congNilWrong)

/- THE SECOND FORM. 'bulk': how many values and letters a reading holds, each counted each time it is reached (what is shared counts as often as it is met; a slice's spare places count too). A statement '..UptoSaid' is the law's where the arguments, and the package variables that the reading takes, are together of bulk at most 1048576: NARROWER than '..Said'. Prove '..Said' where nothing that the law and all that it calls make is longer than what came in: it says more and counts as full. Else prove '..UptoSaid'. A law counts once. -/
mutual
def uptoBulk {H : Type} : DataW H → Nat
  | .lit (.string bytes) => bytes.length + 1
  | .lit _ => 1
  | .nil => 1
  | .ptr d => uptoBulk d + 1
  | .slice elems spare => uptoBulkAll elems + uptoBulkAll spare + 1
  | .agg parts => uptoBulkAll parts + 1
  | .iface _ d => uptoBulk d + 1
  | .map entries => uptoBulkEntries entries + 1
  | .held _ => 1
def uptoBulkAll {H : Type} : List (DataW H) → Nat
  | [] => 0
  | d :: r => uptoBulk d + uptoBulkAll r
def uptoBulkEntries {H : Type} : List (Lit × DataW H) → Nat
  | [] => 0
  | x :: r => uptoBulkEntry x + uptoBulkEntries r
def uptoBulkEntry {H : Type} : Lit × DataW H → Nat
  | (.string bytes, d) => bytes.length + uptoBulk d + 1
  | (_, d) => uptoBulk d + 1
 end
def uptoSmall : (H : Type) → List (DataW H) → Bool := fun _ ds => decide (uptoBulkAll ds ≤ 1048576)
def OpenSpec.upto (s : _root_.Go.ChangeSpec) : _root_.Go.OpenSpec := { _root_.Go.OpenSpec.ofChange s with cond := some uptoSmall }

/-- 'stevedorelaw25.CongOnce', WHERE WHAT IT READS IS OF BULK AT MOST 1048576: true; the input reads as it did. -/
def congOnceUptoRow : OpenClaim := { program := "ytbodppjponepgaa", sum := "5cf80acca29e6df8b20ce4cd64764abb1bae4e6c5713acf56394fee07dd59e4f", func := "stevedore/stevedorelaw25.CongOnce", spec := "congOnce", unfollowed := true, recurses := true, apart := false, narrowed := true }
def CongOnceUptoSaid : Prop := congOnceUptoRow.holds Try.pinned (OpenSpec.upto congOnceSpec)

/-- 'stevedorelaw25.CongPlays', WHERE WHAT IT READS IS OF BULK AT MOST 1048576: true; the input reads as it did. -/
def congPlaysUptoRow : OpenClaim := { program := "ytbodppjponepgaa", sum := "5cf80acca29e6df8b20ce4cd64764abb1bae4e6c5713acf56394fee07dd59e4f", func := "stevedore/stevedorelaw25.CongPlays", spec := "congPlays", unfollowed := true, recurses := true, apart := false, narrowed := true }
def CongPlaysUptoSaid : Prop := congPlaysUptoRow.holds Try.pinned (OpenSpec.upto congPlaysSpec)

/-- 'stevedorelaw25.CongBounds', WHERE WHAT IT READS IS OF BULK AT MOST 1048576: true; the input reads as it did. -/
def congBoundsUptoRow : OpenClaim := { program := "ytbodppjponepgaa", sum := "5cf80acca29e6df8b20ce4cd64764abb1bae4e6c5713acf56394fee07dd59e4f", func := "stevedore/stevedorelaw25.CongBounds", spec := "congBounds", unfollowed := true, recurses := true, apart := false, narrowed := true }
def CongBoundsUptoSaid : Prop := congBoundsUptoRow.holds Try.pinned (OpenSpec.upto congBoundsSpec)

/-- 'stevedorelaw25.CongGrows', WHERE WHAT IT READS IS OF BULK AT MOST 1048576: true; the input reads as it did. -/
def congGrowsUptoRow : OpenClaim := { program := "ytbodppjponepgaa", sum := "5cf80acca29e6df8b20ce4cd64764abb1bae4e6c5713acf56394fee07dd59e4f", func := "stevedore/stevedorelaw25.CongGrows", spec := "congGrows", unfollowed := true, recurses := true, apart := false, narrowed := true }
def CongGrowsUptoSaid : Prop := congGrowsUptoRow.holds Try.pinned (OpenSpec.upto congGrowsSpec)

/-- 'stevedorelaw25.CongNil', WHERE WHAT IT READS IS OF BULK AT MOST 1048576: true; the input reads as it did. -/
def congNilUptoRow : OpenClaim := { program := "ytbodppjponepgaa", sum := "5cf80acca29e6df8b20ce4cd64764abb1bae4e6c5713acf56394fee07dd59e4f", func := "stevedore/stevedorelaw25.CongNil", spec := "congNil", unfollowed := true, recurses := true, apart := false, narrowed := true }
def CongNilUptoSaid : Prop := congNilUptoRow.holds Try.pinned (OpenSpec.upto congNilSpec)

end Rows
end Go.Proofs.Ytbodppjponepgaa
