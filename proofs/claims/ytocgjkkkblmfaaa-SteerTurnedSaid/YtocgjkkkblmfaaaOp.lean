import Derived.Test.YtocgjkkkblmfaaaProg
import Derived.Lib.SmallJoins
import Derived.ProofKit
import Derived.OpenShut
namespace Go.Proofs.Ytocgjkkkblmfaaa.Op
open Go.Joins Go.ChangeShapes Go.WideShapes Go.RowKit Go.Deep
set_option linter.unusedVariables false

theorem cells40 : Try.prog.cellsOf 40 = 2 := by kernel_rfl
theorem cells42 : Try.prog.cellsOf 42 = 4 := by kernel_rfl
theorem cells24 : Try.prog.cellsOf 24 = 1 := by kernel_rfl
theorem cells38 : Try.prog.cellsOf 38 = 1 := by kernel_rfl

section
variable {H : Type} {enc : TypeId × Value → H} {W : World} {base : Nat} {spare : Nat → Bool} {held : Bool}
theorem trod_addr {n : Nat} {c0 c1 : Value} {y : DataW H × List MemPlace} (h : DataW.trod enc Try.prog W base spare held n 40 [c0, c1] = some y) :
    ∃ ip p : Int, c0 = .int .u32 ip ∧ c1 = .int .u16 p ∧ (Lit.int .u32 ip).wf = true ∧ (Lit.int .u16 p).wf = true := by
  obtain ⟨xs, m, _, _, _, hlen, hg⟩ := DataW.trod_struct Try.underlying40 h
  have g0 : DataW.trod enc Try.prog W base spare held m 24 (List.take (Try.prog.cellsOf 24) [c0, c1]) = xs[0]? := hg 0 _ rfl
  have g1 : DataW.trod enc Try.prog W base spare held m 38 (List.take (Try.prog.cellsOf 38) [c1]) = xs[1]? := hg 1 _ rfl
  rw [cells24] at g0
  rw [cells38] at g1
  match xs, hlen with
  | [y0, y1], _ =>
    obtain ⟨ip, e0, _, w0⟩ := DataW.trod_int Try.underlying24 (show DataW.trod enc Try.prog W base spare held m 24 [c0] = some y0 from g0)
    obtain ⟨p, e1, _, w1⟩ := DataW.trod_int Try.underlying38 (show DataW.trod enc Try.prog W base spare held m 38 [c1] = some y1 from g1)
    simp only [List.cons.injEq, and_true] at e0 e1
    exact ⟨ip, p, e0, e1, w0, w1⟩

/-- A pair that came in. -/
theorem open_pair {r : Reach} {b0 : Nat} {v : Value} {d : DataW H} {p : List MemPlace} (hv : Value.okWide Try.prog W r b0 42 v) (h : DataW.Trod enc Try.prog W base spare held 42 v d p) :
    ∃ ip1 p1 ip2 p2 : Int, v = .agg #[.int .u32 ip1, .int .u16 p1, .int .u32 ip2, .int .u16 p2] ∧ (Lit.int .u32 ip1).wf = true ∧ (Lit.int .u16 p1).wf = true ∧ (Lit.int .u32 ip2).wf = true ∧ (Lit.int .u16 p2).wf = true := by
  obtain ⟨cs, rfl, hsz⟩ := okWide_struct Try.underlying42 hv
  obtain ⟨l⟩ := cs
  match l, hsz.trans cells42 with
  | [c0, c1, c2, c3], _ =>
    obtain ⟨fuel, hf⟩ := h
    obtain ⟨xs, m, _, _, _, hlen, hg⟩ := DataW.trod_struct Try.underlying42 hf
    have g0 : DataW.trod enc Try.prog W base spare held m 40 (List.take (Try.prog.cellsOf 40) [c0, c1, c2, c3]) = xs[0]? := hg 0 _ rfl
    have g1 : DataW.trod enc Try.prog W base spare held m 40 (List.take (Try.prog.cellsOf 40) [c2, c3]) = xs[1]? := hg 1 _ rfl
    rw [cells40] at g0 g1
    match xs, hlen with
    | [y0, y1], _ =>
      obtain ⟨ip1, p1, rfl, rfl, w0, w1⟩ := trod_addr (show DataW.trod enc Try.prog W base spare held m 40 [c0, c1] = some y0 from g0)
      obtain ⟨ip2, p2, rfl, rfl, w2, w3⟩ := trod_addr (show DataW.trod enc Try.prog W base spare held m 40 [c2, c3] = some y1 from g1)
      exact ⟨ip1, p1, ip2, p2, rfl, w0, w1, w2, w3⟩
end
end Go.Proofs.Ytocgjkkkblmfaaa.Op
