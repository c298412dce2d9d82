import Derived.Test.YtfdbmpohegdpjaaRto
namespace Go.Proofs.Ytfdbmpohegdpjaa.Rto
open Go.RowKit Blk
set_option linter.unusedVariables false

/-- What may be of the numbers that are kept. -/
structure St.Ok (s : St) : Prop where
  m0 : 0 ≤ s.m
  m1 : s.m ≤ 8796093022208
  o0 : 0 ≤ s.o
  o1 : s.o ≤ 4398046511108
  b0 : 0 ≤ s.bk
  b1 : s.bk ≤ 1000000

theorem St.Ok.zero : St.zero.Ok := ⟨by decide, by decide, by decide, by decide, by decide, by decide⟩

def cut (t : Int) : Int := if 1099511627776 < t then 1099511627776 else t
def St.late (s : St) : St := ⟨s.m, s.o, s.has, s.bk + 1⟩
def St.next (s : St) (t : Int) : St := if s.has then ⟨s.m + (t - s.m / 8), off s t, true, 0⟩ else ⟨8 * t, 2 * t, true, 0⟩
def St.measure (s : St) (t : Int) : St := if t < 0 then s else s.next (cut t)

theorem off_bd (s : St) (h : s.Ok) (t : Int) (ht : 0 ≤ t ∧ t ≤ 1099511627776) : 0 ≤ off s t ∧ off s t ≤ 4398046511108 := by
  have := h.m0; have := h.m1; have := h.o0; have := h.o1
  unfold off; split <;> omega
theorem next_ok (s : St) (h : s.Ok) (t : Int) (ht : 0 ≤ t ∧ t ≤ 1099511627776) : (s.next t).Ok := by
  have := h.m0; have := h.m1
  unfold St.next
  split
  · have ho := off_bd s h t ht
    exact ⟨show 0 ≤ s.m + (t - s.m / 8) by omega, show s.m + (t - s.m / 8) ≤ 8796093022208 by omega, ho.1, ho.2, Int.le_refl 0, show (0 : Int) ≤ 1000000 by decide⟩
  · exact ⟨show 0 ≤ 8 * t by omega, show 8 * t ≤ 8796093022208 by omega, show 0 ≤ 2 * t by omega, show 2 * t ≤ 4398046511108 by omega, Int.le_refl 0, show (0 : Int) ≤ 1000000 by decide⟩
theorem cut_bd (t : Int) (h : 0 ≤ t) : 0 ≤ cut t ∧ cut t ≤ 1099511627776 := by unfold cut; split <;> omega
theorem measure_ok (s : St) (h : s.Ok) (t : Int) : (s.measure t).Ok := by
  unfold St.measure
  split
  · exact h
  · exact next_ok s h _ (cut_bd t (by omega))
theorem late_ok (s : St) (h : s.Ok) (hb : s.bk < 1000000) : s.late.Ok := ⟨h.m0, h.m1, h.o0, h.o1, show 0 ≤ s.bk + 1 by have := h.b0; omega, show s.bk + 1 ≤ 1000000 by omega⟩

/-- The state s lies at block b. -/
def At (w : World) (b : Nat) (s : St) : Prop := Has w b s.cells 39

theorem late_k (s : St) (b : Nat) (w : World) (h : At w b s) (ho : s.Ok) (hb : s.bk < 1000000) :
    Calls Try.prog 9 #[.pointer (some ⟨b, 0, none⟩)] w fun e w' => e = .returned (.tuple #[]) ∧ At w' b s.late ∧ Ch (· = b) w w' := by
  refine (late_c s b w h ⟨ho.b0, by omega⟩).mono ?_
  rintro e w' ⟨rfl, rfl⟩
  exact ⟨rfl, h.set 3 _, (Ch.refl _ _).atb _ _⟩

theorem backs_k (s : St) (b : Nat) (w : World) (h : At w b s) :
    Calls Try.prog 16 #[.pointer (some ⟨b, 0, none⟩)] w fun e w' => e = .returned (.int .i64 s.bk) ∧ w = w' := backs_c s b w h

theorem smooth_k (s : St) (b : Nat) (w : World) (h : At w b s) (ho : s.Ok) :
    Calls Try.prog 13 #[.pointer (some ⟨b, 0, none⟩)] w fun e w' => e = .returned (.tuple #[.int .i64 (s.m / 8), .int .i64 (s.o / 4)]) ∧ Same w w' := by
  refine (smooth_c s b w h ⟨ho.m0, ho.m1⟩ ⟨ho.o0, ho.o1⟩).mono ?_
  rintro e w' ⟨rfl, n, rfl⟩
  exact ⟨rfl, rfl, rfl, rfl, rfl⟩

theorem same_drewN (w : World) (n : Nat) : Same w (w.drewN n) := ⟨rfl, rfl, rfl, rfl⟩
theorem time_q (s : St) (b : Nat) (w : World) (h : At w b s) (ho : s.Ok) :
    Calls Try.prog 14 #[.pointer (some ⟨b, 0, none⟩)] w fun e w' => e = .returned (.int .i64 s.time) ∧ ∃ n, w' = w.drewN n := by
  by_cases hh : s.has = true
  · exact time_has s b w h hh ⟨ho.m0, ho.m1⟩ ⟨ho.o0, ho.o1⟩ ⟨ho.b0, ho.b1⟩
  · exact time_none s b w h (by simpa using hh) ⟨ho.b0, ho.b1⟩
theorem time_k (s : St) (b : Nat) (w : World) (h : At w b s) (ho : s.Ok) :
    Calls Try.prog 14 #[.pointer (some ⟨b, 0, none⟩)] w fun e w' => e = .returned (.int .i64 s.time) ∧ Same w w' := by
  refine (time_q s b w h ho).mono ?_
  rintro e w' ⟨rfl, n, rfl⟩
  exact ⟨rfl, same_drewN _ _⟩

theorem put4 {w : World} {b : Nat} {s : St} (h : Has w b s.cells 39) (m o : Int) : Has ((((w.setCell ⟨b, 3, none⟩ (.int .i64 0)).setCell ⟨b, 0, none⟩ (.int .i64 m)).setCell ⟨b, 1, none⟩ (.int .i64 o)).setCell ⟨b, 2, none⟩ (.bool true)) b (St.cells ⟨m, o, true, 0⟩) 39 :=
  (((h.set 3 _).set 0 _).set 1 _).set 2 _
theorem put3 {w : World} {b : Nat} {s : St} (h : Has w b s.cells 39) (hh : s.has = true) (m o : Int) : Has (((w.setCell ⟨b, 3, none⟩ (.int .i64 0)).setCell ⟨b, 1, none⟩ (.int .i64 o)).setCell ⟨b, 0, none⟩ (.int .i64 m)) b (St.cells ⟨m, o, true, 0⟩) 39 := by
  have := ((h.set 3 (.int .i64 0)).set 1 (.int .i64 o)).set 0 (.int .i64 m)
  rw [← hh]
  exact this

theorem measure_k (s : St) (b : Nat) (t : Int) (w : World) (h : At w b s) (ho : s.Ok) :
    Calls Try.prog 11 #[.pointer (some ⟨b, 0, none⟩), .int .i64 t] w fun e w' => e = .returned (.tuple #[]) ∧ At w' b (s.measure t) ∧ Ch (· = b) w w' := by
  unfold St.measure
  by_cases c0 : t < 0
  · rw [if_pos c0]
    refine (measure_neg s b t w c0).mono ?_
    rintro e w' ⟨rfl, rfl⟩
    exact ⟨rfl, h, Ch.refl _ _⟩
  rw [if_neg c0]
  unfold cut St.next
  by_cases c1 : 1099511627776 < t
  · rw [if_pos c1]
    by_cases hh : s.has = true
    · rw [if_pos hh]
      refine (measure_next_big s b t w h c1 hh ⟨ho.m0, ho.m1⟩ ⟨ho.o0, ho.o1⟩).mono ?_
      rintro e w' ⟨rfl, k⟩
      exact ⟨rfl, (put3 h hh _ _).same k, k.ch' (by repeat (first | exact Ch.refl _ _ | apply Ch.atb))⟩
    · rw [if_neg hh]
      refine (measure_first_big s b t w h c1 (by simpa using hh)).mono ?_
      rintro e w' ⟨rfl, rfl⟩
      exact ⟨rfl, put4 h _ _, by repeat (first | exact Ch.refl _ _ | apply Ch.atb)⟩
  · rw [if_neg c1]
    by_cases hh : s.has = true
    · rw [if_pos hh]
      refine (measure_next s b t w h ⟨by omega, by omega⟩ hh ⟨ho.m0, ho.m1⟩ ⟨ho.o0, ho.o1⟩).mono ?_
      rintro e w' ⟨rfl, k⟩
      exact ⟨rfl, (put3 h hh _ _).same k, k.ch' (by repeat (first | exact Ch.refl _ _ | apply Ch.atb))⟩
    · rw [if_neg hh]
      refine (measure_first s b t w h ⟨by omega, by omega⟩ (by simpa using hh)).mono ?_
      rintro e w' ⟨rfl, rfl⟩
      exact ⟨rfl, put4 h _ _, by repeat (first | exact Ch.refl _ _ | apply Ch.atb)⟩

theorem new_k (w : World) : Calls Try.prog 8 #[] w fun e w' => e = .returned (.pointer (some ⟨w.heap.size, 0, none⟩)) ∧ At w' w.heap.size St.zero ∧ Below w.heap.size w w' ∧ w.heap.size < w'.heap.size := by
  refine (new_c w).mono ?_
  rintro e w' ⟨rfl, rfl⟩
  exact ⟨rfl, Has.new _ _ _, (Below.refl _ _).alloc (Nat.le_refl _) _, by simp⟩
end Go.Proofs.Ytfdbmpohegdpjaa.Rto
