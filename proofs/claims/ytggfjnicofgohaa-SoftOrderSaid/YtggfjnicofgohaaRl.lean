import Derived.Test.YtggfjnicofgohaaRj
namespace Go.Proofs.Ytggfjnicofgohaa.Sf
open Go.RowKit Blk Go.Proofs.YtggfjnicofgohaaW.PrintWords
set_option linter.unusedVariables false
theorem copy_run0 (A : Option Addr) (c : Nat) (w : World) : (Builtin.append_ #[33, 33] 33 #[.slice none 0 0, .slice A 0 c]).run Try.prog w = .ok (.slice none 0 0) w := by
  cases A <;> kernel_rfl
section
variable {w0 w : World} {B b b' l k : Nat} {s : St} {r : Rf} {x : Op.Stp} {K : Nat} {ops : Array Oper} {o : Oper} {a : Act} {Q' : Exit → Act → World → Prop} {Kc : Act → World → Prop}
theorem step_copy (y : Operand) (hw : Region.wanted o (yielded ops a.tmps) = true) (ho : o.op = .call { callee := .builtin .append, args := #[.const (.slice none 0 0), y], argTypes := #[33, 33] }) (hty : o.type = 33)
    (A : Option Addr) (on : List Int) (c : Nat) (hx : a.eval y = .slice A on.length c) (hT : Tri w0 B b b' l s r k x w) (hr : Raw w0 A on) (h1 : 1 ≤ on.length) (h2 : on.length ≤ 1000000)
    (hK : ∀ A' c' w1, QRow w1 w.heap.size 3 1 (.slice A' on.length c') on.length (on.map (Value.int .i64)) → Tri w0 B b b' l s r k x w1 → Kc (a.put o.dst (.slice A' on.length c')) w1) :
    if Region.wanted o (yielded ops a.tmps) = true then Oper.wp Try.prog o a w Kc Q' else Kc (a.put o.dst undef) w := by
  obtain ⟨g, off, rfl, hc⟩ := (hr.later hT.two.below).resolve_left (by omega)
  obtain ⟨A', c', w1, hrun, hq, hB⟩ := copy_run hc c h1 h2
  exact step_app hw (.const (.slice none 0 0)) y 33 ho (.slice none 0 0) (.slice (some ⟨g, off, none⟩) on.length c) (.slice A' on.length c') w w1 rfl hx (by rw [hty]; exact hrun) (hK A' c' w1 hq (hT.under hB))
theorem step_copy0 (y : Operand) (hw : Region.wanted o (yielded ops a.tmps) = true) (ho : o.op = .call { callee := .builtin .append, args := #[.const (.slice none 0 0), y], argTypes := #[33, 33] }) (hty : o.type = 33)
    (A : Option Addr) (c : Nat) (hx : a.eval y = .slice A 0 c) (hK : Kc (a.put o.dst (.slice none 0 0)) w) :
    if Region.wanted o (yielded ops a.tmps) = true then Oper.wp Try.prog o a w Kc Q' else Kc (a.put o.dst undef) w :=
  step_app hw (.const (.slice none 0 0)) y 33 ho (.slice none 0 0) (.slice A 0 c) (.slice none 0 0) w w rfl hx (by rw [hty]; exact copy_run0 A c w) hK
theorem trcores3 {r' : Rf} {v : Int} (h : Tri w0 B b b' l s r k x w) (hn : r.n ≤ 8) (A : Option Addr) (c : Nat) (on : List Int) (hq : Raw w0 A on) (hlen : on.length ≤ 1000000) (hp : r.cores on = (r', v)) :
    Calls Try.prog 20 #[.pointer (some ⟨b', 0, none⟩), .slice A on.length c] w fun e w' => e = .returned (.int .i64 v) ∧ Tri w0 B b b' l s r' k x w' ∧ Keeps (fun t => t = 3) w w' := by
  obtain ⟨q, ro, rk, l', lo, lk, rv, O, R⟩ := h.two.r
  refine (r_cores R hn h.two.Bs A c on (hq.later h.two.below) hlen).mono ?_
  rintro e w' ⟨rfl, ⟨O', hR'⟩, hF⟩
  rw [hp] at hR' ⊢
  have h2 := h.two.byR ⟨_, _, _, _, _, _, _, _, hR'⟩ hF
  exact ⟨rfl, ⟨h2.1, h2.2.has rfl h.y⟩, hF.kept.mono (fun t ht => by subst ht; decide)⟩
end
end Go.Proofs.Ytggfjnicofgohaa.Sf
