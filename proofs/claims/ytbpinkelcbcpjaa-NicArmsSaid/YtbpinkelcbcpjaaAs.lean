import Derived.Test.YtbpinkelcbcpjaaAr
import Derived.WalkKit
import Derived.Test.YtbpinkelcbcpjaaWSized
namespace Go.Proofs.Ytbpinkelcbcpjaa.Ni
open Go.RowKit Blk Go.Proofs.YtbpinkelcbcpjaaW.PrintWords
set_option linter.unusedVariables false
theorem brow_of {w : World} {a : Option Addr} {len cap : Nat} {zs : List Int}
    (h : (a = none ∧ len = 0 ∧ cap = 0 ∧ zs = []) ∨ ∃ x, a = some x ∧ len ≤ cap ∧ cap ≤ maxLen ∧ zs.length = cap ∧ (∀ i, i < zs.length → w.cell? (x.add i) = some (.int .u8 (zs.getD i 0))) ∧ ∀ n ∈ zs, (Lit.int .u8 n).wf = true) :
    BRow w a len (fun i => zs.getD i 0) ∧ len ≤ 9223372036854775807 := by
  rcases h with ⟨rfl, rfl, rfl, rfl⟩ | ⟨x, rfl, h1, h2, h3, hc, hw⟩
  · exact ⟨⟨fun i => by simp, fun h => absurd h (Nat.lt_irrefl 0)⟩, by omega⟩
  · refine ⟨⟨fun i => ?_, fun hl => ⟨x, rfl, ?_, fun i hi => hc i (by omega)⟩⟩, by unfold maxLen at h2; omega⟩
    · by_cases hi : i < zs.length
      · have := bounds_u8 (hw _ (List.getElem_mem hi))
        show 0 ≤ zs.getD i 0 ∧ zs.getD i 0 ≤ 255
        rw [List.getD_eq_getElem?_getD, List.getElem?_eq_getElem hi]
        simp only [Option.getD_some]
        omega
      · show 0 ≤ zs.getD i 0 ∧ zs.getD i 0 ≤ 255
        rw [List.getD_eq_getElem?_getD, List.getElem?_eq_none (by omega)]
        decide
    · have := hc 0 (by omega)
      rcases Nat.lt_or_ge x.block w.heap.size with y | y
      · exact y
      · unfold World.cell? at this; rw [addB, Array.getElem?_eq_none y] at this; cases this
theorem arms (size : Int) (a1 : Option Addr) (len1 cap1 : Nat) (z1 : List Int) (a2 : Option Addr) (len2 cap2 : Nat) (z2 : List Int) (w : World) (hs : 0 ≤ size ∧ size ≤ 255)
    (h1 : (a1 = none ∧ len1 = 0 ∧ cap1 = 0 ∧ z1 = []) ∨ ∃ x, a1 = some x ∧ len1 ≤ cap1 ∧ cap1 ≤ maxLen ∧ z1.length = cap1 ∧ (∀ i, i < z1.length → w.cell? (x.add i) = some (.int .u8 (z1.getD i 0))) ∧ ∀ n ∈ z1, (Lit.int .u8 n).wf = true)
    (h2 : (a2 = none ∧ len2 = 0 ∧ cap2 = 0 ∧ z2 = []) ∨ ∃ x, a2 = some x ∧ len2 ≤ cap2 ∧ cap2 ≤ maxLen ∧ z2.length = cap2 ∧ (∀ i, i < z2.length → w.cell? (x.add i) = some (.int .u8 (z2.getD i 0))) ∧ ∀ n ∈ z2, (Lit.int .u8 n).wf = true) :
    Calls Try.prog 5 #[.int .u8 size, .slice a1 len1 cap1, .slice a2 len2 cap2] w fun e w' => e = .returned (.bool true) ∧ Below w.heap.size w w' := by
  obtain ⟨g1, l1⟩ := brow_of h1
  obtain ⟨g2, l2⟩ := brow_of h2
  exact arms_k size a1 a2 len1 cap1 len2 cap2 _ _ w hs g1 g2 l1 l2
end Go.Proofs.Ytbpinkelcbcpjaa.Ni
