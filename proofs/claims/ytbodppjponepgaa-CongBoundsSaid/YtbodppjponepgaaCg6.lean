import Derived.Test.YtbodppjponepgaaCg4
import Derived.Deep.LoopGhost
import Derived.LoopN
import Derived.OpenShut
namespace Go.Proofs.Ytbodppjponepgaa.Cg
open Go.RowKit Blk
attribute [local go_sem] Go.Proofs.YtbodppjponepgaaW.PrintMore.max2_int Go.Proofs.YtbodppjponepgaaW.PrintMore.min2_int Go.Proofs.YtbodppjponepgaaW.PrintMore.max_two Go.Proofs.YtbodppjponepgaaW.PrintMore.min_two
set_option linter.unusedVariables false

/-- In a recovery, to the mark. -/
structure InRec (s : St) (next : Int) : Prop where
  ok : s.Ok 10
  st : s.state = 2
  mark : s.mark = some next

theorem less_back (next u r : Int) (h : u = (next - r) % 4294967296) (hn : 0 ≤ next ∧ next ≤ 4294967295) (hr : 1 ≤ r ∧ r ≤ 65535) : less next u = false := by
  unfold less
  rw [decide_eq_false_iff_not]
  have e : (u - next) % 4294967296 = 4294967296 - r := by omega
  rw [e]
  unfold wrap32
  omega
theorem rec_part (s : St) (next u n : Int) (h : InRec s next) (hn : 1 ≤ n) (hu : u ≠ next) (hl : less next u = false) : (s.acked u n).2 = true ∧ InRec (s.acked u n).1 next := by
  have hp : s.fresh.passed u = false := by
    unfold St.passed
    rw [show s.fresh.mark = some next from h.mark]
    show (decide (u = next) || less next u) = false
    rw [decide_eq_false hu, hl]; rfl
  have e : s.acked u n = (⟨s.mss, cap (Go.Proofs.YtbodppjponepgaaW.PrintWords.mx (s.window - n) s.mss + (if s.mss ≤ n then s.mss else 0)), s.edge, s.state, 0, s.counted, s.mark⟩, true) := by
    unfold St.acked
    rw [if_neg (by omega), if_neg (by rw [h.st]; decide), if_neg (by rw [h.st]; decide)]
    unfold St.recov
    rw [if_neg (by rw [hp]; decide)]
    rfl
  refine ⟨by rw [e], ?_, by rw [e]; exact h.st, by rw [e]; exact h.mark⟩
  have := recov_ok s.fresh u n (fresh_ok s h.ok)
  unfold St.acked
  rw [if_neg (by omega), if_neg (by rw [h.st]; decide), if_neg (by rw [h.st]; decide)]
  exact this
theorem rec_end (s : St) (next n : Int) (h : InRec s next) (hn : 1 ≤ n) : (s.acked next n).2 = false ∧ (s.acked next n).1.state = 1 ∧ (s.acked next n).1.Ok 10 := by
  have hp : s.fresh.passed next = true := by
    unfold St.passed
    rw [show s.fresh.mark = some next from h.mark]
    show (decide (next = next) || less next next) = true
    rw [decide_eq_true rfl]; rfl
  have e : s.acked next n = s.fresh.recov next n := by
    unfold St.acked
    rw [if_neg (by omega), if_neg (by rw [h.st]; decide), if_neg (by rw [h.st]; decide)]
  have o := recov_ok s.fresh next n (fresh_ok s h.ok)
  rw [e]
  refine ⟨?_, ?_, o⟩ <;> (unfold St.recov; rw [if_pos hp])
theorem rec_twice (s : St) (next u x f : Int) (h : InRec s next) : s.twice u x f = (s.wide, false) ∧ InRec s.wide next := by
  have e : s.twice u x f = (s.wide, false) := by unfold St.twice; rw [if_pos h.st]
  refine ⟨e, ?_, h.st, h.mark⟩
  have m0 := h.ok.m0
  have w0 := h.ok.w0
  have hW := cap_bd (s.window + s.mss) (by omega)
  exact ⟨h.ok.m0, h.ok.m1, hW.1, hW.2, h.ok.e0, h.ok.e1, h.ok.t0, h.ok.t1, h.ok.c0, h.ok.c1, h.ok.st, h.ok.mark_u⟩
theorem first_three (m a next f : Int) (h : 1 ≤ m ∧ m ≤ 65535) (hx : 0 ≤ next ∧ next ≤ 4294967295) :
    (start m).twice a next f = ((start m).more, false) ∧ (start m).more.twice a next f = ((start m).more.more, false) ∧ (start m).more.more.twice a next f = ((start m).more.more.hit next f, true) ∧ (start m).more.Ok 10 ∧ (start m).more.more.Ok 10 ∧ InRec ((start m).more.more.hit next f) next := by
  have e1 : (start m).twice a next f = ((start m).more, false) := by
    unfold St.twice; rw [if_neg (by show (0 : Int) ≠ 2; decide), if_neg (by rintro ⟨h, _⟩; exact absurd h (by show ¬ ((0 : Int) + 1 = 3); decide))]
  have e2 : (start m).more.twice a next f = ((start m).more.more, false) := by
    unfold St.twice; rw [if_neg (by show (0 : Int) ≠ 2; decide), if_neg (by rintro ⟨h, _⟩; exact absurd h (by show ¬ ((0 : Int) + 1 + 1 = 3); decide))]
  have e3 : (start m).more.more.twice a next f = ((start m).more.more.hit next f, true) := by
    unfold St.twice; rw [if_neg (by show (0 : Int) ≠ 2; decide), if_pos ⟨by show (0 : Int) + 1 + 1 + 1 = 3; decide, rfl⟩]
  have o0 := start_ok m h
  have o1 := twice_ok (start m) a next f o0 hx
  rw [e1] at o1
  have o2 := twice_ok _ a next f o1 hx
  rw [e2] at o2
  have o3 := twice_ok _ a next f o2 hx
  rw [e3] at o3
  exact ⟨e1, e2, e3, o1.mono (by decide), o2.mono (by decide), o3.mono (by decide), rfl, rfl⟩

theorem later {w wx : World} {a : Addr} {v : Value} (hb : Below w.heap.size w wx) (h : w.cell? a = some v) : wx.cell? a = some v := (hb.cell (World.block_lt_of_cell? _ _ h)).trans h
/-- A slice of whole numbers that came in. -/
def IsRow (k : IntKind) (w : World) (a : Option Addr) (len cap : Nat) (zs : List Int) : Prop :=
  (a = none ∧ len = 0 ∧ cap = 0 ∧ zs = []) ∨
  ∃ x, a = some x ∧ len ≤ cap ∧ cap ≤ maxLen ∧ zs.length = cap ∧ (∀ i, i < zs.length → w.cell? (x.add i) = some (.int k (zs.getD i 0))) ∧ ∀ n ∈ zs, (Lit.int k n).wf = true
/-- What a walk needs of a slice that came in: its address where it has an element, its cells. -/
theorem row_at {k : IntKind} {w : World} {a : Option Addr} {len cap : Nat} {zs : List Int} (h : IsRow k w a len cap zs) :
    len = 0 ∨ ∃ b off, a = some ⟨b, off, none⟩ ∧ (∀ i, i < len → w.cell? ⟨b, off + i, none⟩ = some (.int k (zs.getD i 0))) ∧ (∀ i, i < len → (Lit.int k (zs.getD i 0)).wf = true) := by
  rcases h with ⟨_, rfl, _⟩ | ⟨x, rfl, hl, _, hz, hc, hw⟩
  · exact .inl rfl
  · by_cases c : len = 0
    · exact .inl c
    · obtain ⟨b, off, rfl, hj⟩ := ints_at hc (by omega)
      refine .inr ⟨b, off, rfl, fun i hi => hj i (by omega), fun i hi => ?_⟩
      have hlt : i < zs.length := by omega
      rw [List.getD_eq_getElem?_getD, List.getElem?_eq_getElem hlt]
      exact hw _ (List.getElem_mem hlt)
end Go.Proofs.Ytbodppjponepgaa.Cg
