import Derived.Test.YtbodppjponepgaaCg6
import Derived.Test.YtbodppjponepgaaOp
namespace Go.Proofs.Ytbodppjponepgaa.Cg
open Go.RowKit Blk Go.Proofs.YtbodppjponepgaaW.PrintWords
attribute [local go_sem] Go.Proofs.YtbodppjponepgaaW.PrintMore.max2_int Go.Proofs.YtbodppjponepgaaW.PrintMore.min2_int Go.Proofs.YtbodppjponepgaaW.PrintMore.max_two Go.Proofs.YtbodppjponepgaaW.PrintMore.min_two
set_option linter.unusedVariables false

/-- What holds between two calls. -/
structure Inv (s : St) (m K : Int) : Prop where
  ok : s.Ok K
  mss : s.mss = m
  win : m ≤ s.window
  edge : 2 * m ≤ s.edge
theorem Lone.alloc {w0 w : World} {b : Nat} {s : St} (h : Lone w0 b s w) (o : Obj) : Lone w0 b s (w.alloc o) := by
  obtain ⟨⟨mp, h1, h2⟩, h3, h4⟩ := h
  refine ⟨⟨mp, h1.alloc o, ?_⟩, h3.alloc h3.size o, h4⟩
  rcases h2 with h | ⟨x, k, e1, e2, e3, e4⟩
  · exact .inl h
  · exact .inr ⟨x, k, e1, e2, e3, e4.alloc o⟩
theorem half_ge (m f : Int) (hm : 1 ≤ m ∧ m ≤ 65535) : 2 * m ≤ cap (mx (f.tdiv 2) (2 * m)) := by unfold cap mn mx; (repeat' split) <;> omega
theorem start_inv (m : Int) (h : 1 ≤ m ∧ m ≤ 65535) : Inv (start m) m 0 := by
  refine ⟨start_ok m h, rfl, ?_, show 2 * m ≤ 1073741824 by omega⟩
  show m ≤ mn (4 * m) (mx 4380 (2 * m))
  unfold mn mx; (repeat' split) <;> omega
theorem Inv.mss_bd {s : St} {m K : Int} (h : Inv s m K) : 1 ≤ m ∧ m ≤ 65535 := by rw [← h.mss]; exact ⟨h.ok.m0, h.ok.m1⟩
/-- What an answer does. -/
theorem acked_inv (s : St) (u n m K : Int) (h : Inv s m K) : Inv (s.acked u n).1 m (K + 1) ∧
    (s.state ≠ 2 → (s.acked u n).2 = false ∧ s.window ≤ (s.acked u n).1.window ∧ (s.acked u n).1.window ≤ s.window + m) ∧ ((s.acked u n).2 = true → (s.acked u n).1.state = 2) := by
  have o := acked_ok s u n h.ok
  have hm := h.mss_bd
  have hw := h.win
  have w1 := h.ok.w1
  have e0 := h.edge
  have hs := h.mss
  unfold St.acked at o ⊢
  by_cases c : n < 1
  · rw [if_pos c] at o ⊢
    exact ⟨⟨o, h.mss, h.win, h.edge⟩, fun _ => ⟨rfl, Int.le_refl _, by dsimp only; omega⟩, fun x => by cases x⟩
  rw [if_neg c] at o ⊢
  by_cases c0 : s.state = 0
  · rw [if_pos c0] at o ⊢
    dsimp only at o ⊢
    have g1 : (s.fresh.slow n).mss = m := by unfold St.slow St.grow; split <;> exact h.mss
    have g2 : (s.fresh.slow n).window = cap (s.window + mn n s.mss) := by unfold St.slow St.grow; split <;> rfl
    have g3 : (s.fresh.slow n).edge = s.edge := by unfold St.slow St.grow; split <;> rfl
    have g4 : s.window ≤ cap (s.window + mn n s.mss) ∧ cap (s.window + mn n s.mss) ≤ s.window + m := by rw [hs]; unfold cap mn; (repeat' split) <;> omega
    exact ⟨⟨o, g1, by rw [g2]; omega, by rw [g3]; omega⟩, fun _ => ⟨rfl, by rw [g2]; omega, by rw [g2]; omega⟩, fun x => by cases x⟩
  rw [if_neg c0] at o ⊢
  by_cases c1 : s.state = 1
  · rw [if_pos c1] at o ⊢
    dsimp only at o ⊢
    have g1 : (s.fresh.avoid n).mss = m := by unfold St.avoid St.count; split <;> exact h.mss
    have g2 : (s.fresh.avoid n).window = s.window ∨ (s.fresh.avoid n).window = cap (s.window + s.mss) := by
      unfold St.avoid St.count; split
      · exact .inr rfl
      · exact .inl rfl
    have g3 : (s.fresh.avoid n).edge = s.edge := by unfold St.avoid St.count; split <;> rfl
    have g4 : s.window ≤ cap (s.window + s.mss) ∧ cap (s.window + s.mss) ≤ s.window + m := by rw [hs]; unfold cap mn; (repeat' split) <;> omega
    exact ⟨⟨o, g1, by omega, by rw [g3]; omega⟩, fun _ => ⟨rfl, by omega, by omega⟩, fun x => by cases x⟩
  rw [if_neg c1] at o ⊢
  have c2 : s.state = 2 := by have := h.ok.st; omega
  refine ⟨⟨o, ?_, ?_, ?_⟩, fun x => absurd c2 x, ?_⟩
  · unfold St.recov; split <;> exact h.mss
  · unfold St.recov; split
    · show m ≤ s.edge; omega
    · show m ≤ cap (mx (s.window - n) s.mss + (if s.mss ≤ n then s.mss else 0))
      rw [hs]; unfold cap mn mx; (repeat' split) <;> omega
  · unfold St.recov; split <;> exact h.edge
  · unfold St.recov; split
    · intro x; cases x
    · intro _; exact c2
/-- What an answer that comes again does. -/
theorem twice_inv (s : St) (u x f m K : Int) (h : Inv s m K) (hx : 0 ≤ x ∧ x ≤ 4294967295) : Inv (s.twice u x f).1 m (K + 1) ∧
    ((s.twice u x f).2 = true → s.state ≠ 2 ∧ (s.twice u x f).1.state = 2 ∧ (s.twice u x f).1.edge = cap (mx (f.tdiv 2) (2 * m))) ∧
    ((s.twice u x f).2 = false → (s.twice u x f).1.state = s.state ∧ s.window ≤ (s.twice u x f).1.window) := by
  have o := twice_ok s u x f h.ok hx
  have hm := h.mss_bd
  have hw := h.win
  have w1 := h.ok.w1
  have e0 := h.edge
  have hs := h.mss
  have hh := half_ge m f hm
  unfold St.twice at o ⊢
  by_cases c : s.state = 2
  · rw [if_pos c] at o ⊢
    have g : s.window ≤ s.wide.window := by
      show s.window ≤ cap (s.window + s.mss)
      unfold cap mn; (repeat' split) <;> omega
    exact ⟨⟨o, h.mss, by dsimp only; omega, h.edge⟩, ⟨fun (y : false = true) => (by cases y), fun _ => ⟨rfl, g⟩⟩⟩
  rw [if_neg c] at o ⊢
  by_cases c1 : s.twices + 1 = 3 ∧ s.passed u = true
  · rw [if_pos c1] at o ⊢
    have ge : (s.hit x f).edge = cap (mx (f.tdiv 2) (2 * m)) := by show cap (mx (f.tdiv 2) (2 * s.mss)) = _; rw [hs]
    refine ⟨⟨o, h.mss, ?_, by dsimp only; rw [ge]; exact hh⟩, fun _ => ⟨c, rfl, ge⟩, fun (y : true = false) => (by cases y)⟩
    show m ≤ cap (cap (mx (f.tdiv 2) (2 * s.mss)) + 3 * s.mss)
    rw [hs]
    generalize cap (mx (f.tdiv 2) (2 * m)) = E at *
    unfold cap mn; split <;> omega
  · rw [if_neg c1] at o ⊢
    exact ⟨⟨o, h.mss, h.win, h.edge⟩, ⟨fun (y : false = true) => (by cases y), fun _ => ⟨rfl, Int.le_refl _⟩⟩⟩
theorem late_inv (s : St) (x f m K : Int) (h : Inv s m K) (hx : 0 ≤ x ∧ x ≤ 4294967295) : Inv (s.late x f) m (K + 1) ∧ (s.late x f).window = m ∧ (s.late x f).edge = cap (mx (f.tdiv 2) (2 * m)) ∧ (s.late x f).state = 0 := by
  have hm := h.mss_bd
  have hh := half_ge m f hm
  have ge : (s.late x f).edge = cap (mx (f.tdiv 2) (2 * m)) := by show cap (mx (f.tdiv 2) (2 * s.mss)) = _; rw [h.mss]
  exact ⟨⟨(late_ok s x f h.ok hx).mono (by omega), h.mss, by show m ≤ s.mss; rw [h.mss]; omega, by rw [ge]; exact hh⟩, h.mss, ge, rfl⟩
end Go.Proofs.Ytbodppjponepgaa.Cg
