/-
  No cell of these rows narrows 'for every input' (looked for: loops, veiled, ifaces, maps, wideKeys, modest, calm, conditions, laid).
  DERIVED. THE GIVEN ROWS OF THIS SEAT. 4 by the template 'for every input the law returns true; each argument reads behind the call as it read before'; 0 by the template 'total and deterministic' (their statements: YtonpfbhfcefhcaaTotals.lean).
  GIVEN WITH THE SEED: the statements are not yours to turn. If you find one false, say at which input.
  Laid BY PROGRAM, IN A SANDBOX (cutbox-rows.mjs): the forced cells as the released guide's own fill.sh prints them over the translation 217167e0d0c346f7… (all of the seat's roots in one cut). By AI agents, Wed Nov 11 2026. No macro, syntax, notation, axiom, sorry.
-/
import Derived.Test.YtonpfbhfcefhcaaChecked
import GoSem.Claim
import GoSem.ClaimJoined
import GoSem.ClaimMapViews
import Derived.JoinedTies
import Derived.KernelRfl
namespace Go.Proofs.Ytonpfbhfcefhcaa
/- THE CELL 'sum', in the pinned program and in every row, IS THE sha256 OF THE DUMP (.gsa) THAT YtonpfbhfcefhcaaProg.lean LOADS. Nothing in Lean hashes anything: it is a label: what it is worth is what the hold of that sum in a sandbox is worth. -/
noncomputable def Try.pinned : Pinned := { name := "ytonpfbhfcefhcaa", sum := "217167e0d0c346f741f50c96e24c92a6207dc62b2618f900bfc2d9f13b5d3622", checked := Try.checked }
namespace Rows
def none {H : Type} : Left H := { results := [], args := [] }

/-- 'stevedorelaw08.ArpTells': WHATEVER THE INPUT: true; the input reads as it did. -/
def arpTellsSpec : ChangeSpec := { name := "arpTells", fn := fun _ => fun
  | [d1, d2] => { results := [.lit (.bool true)], args := [d1, d2] }
  | _ => none }
def arpTellsRow : OpenClaim := { program := "ytonpfbhfcefhcaa", sum := "217167e0d0c346f741f50c96e24c92a6207dc62b2618f900bfc2d9f13b5d3622", func := "stevedore/stevedorelaw08.ArpTells", spec := "arpTells", apart := false }
def ArpTellsSaid : Prop := arpTellsRow.holds Try.pinned (OpenSpec.ofChange arpTellsSpec)

/-- ITS FALSE NEIGHBOUR: 'it returns false'. Refute it at one input. -/
def arpTellsWrong : ChangeSpec := { name := "arpTells", fn := fun _ => fun
  | [d1, d2] => { results := [.lit (.bool false)], args := [d1, d2] }
  | _ => none }
def ArpTellsWrongFalsely : Prop := arpTellsRow.holds Try.pinned (OpenSpec.ofChange arpTellsWrong)

/-- 'stevedorelaw08.ArpAnswers': WHATEVER THE INPUT: true; the input reads as it did. -/
def arpAnswersSpec : ChangeSpec := { name := "arpAnswers", fn := fun _ => fun
  | [d1, d2, d3, d4] => { results := [.lit (.bool true)], args := [d1, d2, d3, d4] }
  | _ => none }
def arpAnswersRow : OpenClaim := { program := "ytonpfbhfcefhcaa", sum := "217167e0d0c346f741f50c96e24c92a6207dc62b2618f900bfc2d9f13b5d3622", func := "stevedore/stevedorelaw08.ArpAnswers", spec := "arpAnswers", apart := false }
def ArpAnswersSaid : Prop := arpAnswersRow.holds Try.pinned (OpenSpec.ofChange arpAnswersSpec)

/-- ITS FALSE NEIGHBOUR: 'it returns false'. Refute it at one input. -/
def arpAnswersWrong : ChangeSpec := { name := "arpAnswers", fn := fun _ => fun
  | [d1, d2, d3, d4] => { results := [.lit (.bool false)], args := [d1, d2, d3, d4] }
  | _ => none }
def ArpAnswersWrongFalsely : Prop := arpAnswersRow.holds Try.pinned (OpenSpec.ofChange arpAnswersWrong)

/-- 'stevedorelaw08.ArpBack': WHATEVER THE INPUT: true; the input reads as it did. -/
def arpBackSpec : ChangeSpec := { name := "arpBack", fn := fun _ => fun
  | [d1, d2, d3, d4] => { results := [.lit (.bool true)], args := [d1, d2, d3, d4] }
  | _ => none }
def arpBackRow : OpenClaim := { program := "ytonpfbhfcefhcaa", sum := "217167e0d0c346f741f50c96e24c92a6207dc62b2618f900bfc2d9f13b5d3622", func := "stevedore/stevedorelaw08.ArpBack", spec := "arpBack", apart := false }
def ArpBackSaid : Prop := arpBackRow.holds Try.pinned (OpenSpec.ofChange arpBackSpec)

/-- ITS FALSE NEIGHBOUR: 'it returns false'. Refute it at one input. -/
def arpBackWrong : ChangeSpec := { name := "arpBack", fn := fun _ => fun
  | [d1, d2, d3, d4] => { results := [.lit (.bool false)], args := [d1, d2, d3, d4] }
  | _ => none }
def ArpBackWrongFalsely : Prop := arpBackRow.holds Try.pinned (OpenSpec.ofChange arpBackWrong)

/-- 'stevedorelaw08.ArpTalk': WHATEVER THE INPUT: true; the input reads as it did. -/
def arpTalkSpec : ChangeSpec := { name := "arpTalk", fn := fun _ => fun
  | [d1, d2, d3, d4] => { results := [.lit (.bool true)], args := [d1, d2, d3, d4] }
  | _ => none }
def arpTalkRow : OpenClaim := { program := "ytonpfbhfcefhcaa", sum := "217167e0d0c346f741f50c96e24c92a6207dc62b2618f900bfc2d9f13b5d3622", func := "stevedore/stevedorelaw08.ArpTalk", spec := "arpTalk", apart := false }
def ArpTalkSaid : Prop := arpTalkRow.holds Try.pinned (OpenSpec.ofChange arpTalkSpec)

/-- ITS FALSE NEIGHBOUR: 'it returns false'. Refute it at one input. -/
def arpTalkWrong : ChangeSpec := { name := "arpTalk", fn := fun _ => fun
  | [d1, d2, d3, d4] => { results := [.lit (.bool false)], args := [d1, d2, d3, d4] }
  | _ => none }
def ArpTalkWrongFalsely : Prop := arpTalkRow.holds Try.pinned (OpenSpec.ofChange arpTalkWrong)

/- THE SECOND FORM. 'bulk': how many values and letters a reading holds, each counted each time it is reached (what is shared counts as often as it is met; a slice's spare places count too). A statement '..UptoSaid' is the law's where the arguments, and the package variables that the reading takes, are together of bulk at most 1048576: NARROWER than '..Said'. Prove '..Said' where nothing that the law and all that it calls make is longer than what came in: it says more and counts as full. Else prove '..UptoSaid'. A law counts once. -/
mutual
def uptoBulk {H : Type} : DataW H → Nat
  | .lit (.string bytes) => bytes.length + 1
  | .lit _ => 1
  | .nil => 1
  | .ptr d => uptoBulk d + 1
  | .slice elems spare => uptoBulkAll elems + uptoBulkAll spare + 1
  | .agg parts => uptoBulkAll parts + 1
  | .iface _ d => uptoBulk d + 1
  | .map entries => uptoBulkEntries entries + 1
  | .held _ => 1
def uptoBulkAll {H : Type} : List (DataW H) → Nat
  | [] => 0
  | d :: r => uptoBulk d + uptoBulkAll r
def uptoBulkEntries {H : Type} : List (Lit × DataW H) → Nat
  | [] => 0
  | x :: r => uptoBulkEntry x + uptoBulkEntries r
def uptoBulkEntry {H : Type} : Lit × DataW H → Nat
  | (.string bytes, d) => bytes.length + uptoBulk d + 1
  | (_, d) => uptoBulk d + 1
 end
def uptoSmall : (H : Type) → List (DataW H) → Bool := fun _ ds => decide (uptoBulkAll ds ≤ 1048576)
def OpenSpec.upto (s : _root_.Go.ChangeSpec) : _root_.Go.OpenSpec := { _root_.Go.OpenSpec.ofChange s with cond := some uptoSmall }

/-- 'stevedorelaw08.ArpTells', WHERE WHAT IT READS IS OF BULK AT MOST 1048576: true; the input reads as it did. -/
def arpTellsUptoRow : OpenClaim := { program := "ytonpfbhfcefhcaa", sum := "217167e0d0c346f741f50c96e24c92a6207dc62b2618f900bfc2d9f13b5d3622", func := "stevedore/stevedorelaw08.ArpTells", spec := "arpTells", apart := false, narrowed := true }
def ArpTellsUptoSaid : Prop := arpTellsUptoRow.holds Try.pinned (OpenSpec.upto arpTellsSpec)

/-- 'stevedorelaw08.ArpAnswers', WHERE WHAT IT READS IS OF BULK AT MOST 1048576: true; the input reads as it did. -/
def arpAnswersUptoRow : OpenClaim := { program := "ytonpfbhfcefhcaa", sum := "217167e0d0c346f741f50c96e24c92a6207dc62b2618f900bfc2d9f13b5d3622", func := "stevedore/stevedorelaw08.ArpAnswers", spec := "arpAnswers", apart := false, narrowed := true }
def ArpAnswersUptoSaid : Prop := arpAnswersUptoRow.holds Try.pinned (OpenSpec.upto arpAnswersSpec)

/-- 'stevedorelaw08.ArpBack', WHERE WHAT IT READS IS OF BULK AT MOST 1048576: true; the input reads as it did. -/
def arpBackUptoRow : OpenClaim := { program := "ytonpfbhfcefhcaa", sum := "217167e0d0c346f741f50c96e24c92a6207dc62b2618f900bfc2d9f13b5d3622", func := "stevedore/stevedorelaw08.ArpBack", spec := "arpBack", apart := false, narrowed := true }
def ArpBackUptoSaid : Prop := arpBackUptoRow.holds Try.pinned (OpenSpec.upto arpBackSpec)

/-- 'stevedorelaw08.ArpTalk', WHERE WHAT IT READS IS OF BULK AT MOST 1048576: true; the input reads as it did. -/
def arpTalkUptoRow : OpenClaim := { program := "ytonpfbhfcefhcaa", sum := "217167e0d0c346f741f50c96e24c92a6207dc62b2618f900bfc2d9f13b5d3622", func := "stevedore/stevedorelaw08.ArpTalk", spec := "arpTalk", apart := false, narrowed := true }
def ArpTalkUptoSaid : Prop := arpTalkUptoRow.holds Try.pinned (OpenSpec.upto arpTalkSpec)

end Rows
end Go.Proofs.Ytonpfbhfcefhcaa
