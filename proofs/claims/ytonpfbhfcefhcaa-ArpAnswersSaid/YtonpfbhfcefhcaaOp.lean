import Derived.Test.YtonpfbhfcefhcaaProg
import Derived.Lib.SmallJoins
import Derived.ProofKit
import Derived.OpenShut
namespace Go.Proofs.Ytonpfbhfcefhcaa.Op
open Go.Joins Go.ChangeShapes Go.WideShapes Go.RowKit Go.Deep
set_option linter.unusedVariables false

theorem cells27 : Try.prog.cellsOf 27 = 5 := by kernel_rfl
theorem cells22 : Try.prog.cellsOf 22 = 1 := by kernel_rfl
theorem cells24 : Try.prog.cellsOf 24 = 1 := by kernel_rfl
theorem cells25 : Try.prog.cellsOf 25 = 1 := by kernel_rfl

section
variable {H : Type} {enc : TypeId × Value → H} {W : World} {base : Nat} {spare : Nat → Bool} {held : Bool}
/-- A packet that came in. -/
theorem open_arp {r : Reach} {b0 : Nat} {v : Value} {d : DataW H} {p : List MemPlace} (hv : Value.okWide Try.prog W r b0 27 v) (h : DataW.Trod enc Try.prog W base spare held 27 v d p) :
    ∃ op m ip tm tip : Int, v = .agg #[.int .u16 op, .int .u64 m, .int .u32 ip, .int .u64 tm, .int .u32 tip] ∧ (Lit.int .u16 op).wf = true ∧ (Lit.int .u64 m).wf = true ∧ (Lit.int .u32 ip).wf = true ∧ (Lit.int .u64 tm).wf = true ∧ (Lit.int .u32 tip).wf = true := by
  obtain ⟨cs, rfl, hsz⟩ := okWide_struct Try.underlying27 hv
  obtain ⟨l⟩ := cs
  match l, hsz.trans cells27 with
  | [c0, c1, c2, c3, c4], _ =>
    obtain ⟨fuel, hf⟩ := h
    obtain ⟨xs, m, _, _, _, hlen, hg⟩ := DataW.trod_struct Try.underlying27 hf
    have g0 : DataW.trod enc Try.prog W base spare held m 22 (List.take (Try.prog.cellsOf 22) [c0, c1, c2, c3, c4]) = xs[0]? := hg 0 _ rfl
    have g1 : DataW.trod enc Try.prog W base spare held m 24 (List.take (Try.prog.cellsOf 24) [c1, c2, c3, c4]) = xs[1]? := hg 1 _ rfl
    have g2 : DataW.trod enc Try.prog W base spare held m 25 (List.take (Try.prog.cellsOf 25) [c2, c3, c4]) = xs[2]? := hg 2 _ rfl
    have g3 : DataW.trod enc Try.prog W base spare held m 24 (List.take (Try.prog.cellsOf 24) [c3, c4]) = xs[3]? := hg 3 _ rfl
    have g4 : DataW.trod enc Try.prog W base spare held m 25 (List.take (Try.prog.cellsOf 25) [c4]) = xs[4]? := hg 4 _ rfl
    rw [cells22] at g0
    rw [cells24] at g1 g3
    rw [cells25] at g2 g4
    match xs, hlen with
    | [y0, y1, y2, y3, y4], _ =>
      obtain ⟨n0, e0, _, w0⟩ := DataW.trod_int Try.underlying22 (show DataW.trod enc Try.prog W base spare held m 22 [c0] = some y0 from g0)
      obtain ⟨n1, e1, _, w1⟩ := DataW.trod_int Try.underlying24 (show DataW.trod enc Try.prog W base spare held m 24 [c1] = some y1 from g1)
      obtain ⟨n2, e2, _, w2⟩ := DataW.trod_int Try.underlying25 (show DataW.trod enc Try.prog W base spare held m 25 [c2] = some y2 from g2)
      obtain ⟨n3, e3, _, w3⟩ := DataW.trod_int Try.underlying24 (show DataW.trod enc Try.prog W base spare held m 24 [c3] = some y3 from g3)
      obtain ⟨n4, e4, _, w4⟩ := DataW.trod_int Try.underlying25 (show DataW.trod enc Try.prog W base spare held m 25 [c4] = some y4 from g4)
      simp only [List.cons.injEq, and_true] at e0 e1 e2 e3 e4
      subst e0 e1 e2 e3 e4
      exact ⟨n0, n1, n2, n3, n4, rfl, w0, w1, w2, w3, w4⟩
end
end Go.Proofs.Ytonpfbhfcefhcaa.Op
