import Derived.Test.YtfdbmpohegdpjaaRto4
namespace Go.Proofs.Ytfdbmpohegdpjaa.Rto
open Go.RowKit Blk
set_option linter.unusedVariables false

/-- The reference's state lies at block b. -/
def RAt (w : World) (b : Nat) (s : St) : Prop := Has w b s.cells 28

set_option maxHeartbeats 1000000 in
theorem rlate_k (s : St) (b : Nat) (w : World) (h : RAt w b s) (ho : s.Ok) (hb : s.bk < 1000000) :
    Calls Try.prog 10 #[.pointer (some ⟨b, 0, none⟩)] w fun e w' => e = .returned (.tuple #[]) ∧ RAt w' b s.late ∧ Ch (· = b) w w' := by
  have c3 : w.cell? ⟨b, 3, none⟩ = some (.int .i64 s.bk) := h.cell rfl
  have f3 := Has.free h 3
  have b0 := ho.b0
  go_enter Try.func10, Try.ntmps10
  go_wp2
  go_end0
  exact ⟨rfl, h.set 3 _, (Ch.refl _ _).atb _ _⟩

theorem put28 {w : World} {b : Nat} {s : St} (h : Has w b s.cells 28) (m o : Int) : Has ((((w.setCell ⟨b, 3, none⟩ (.int .i64 0)).setCell ⟨b, 2, none⟩ (.bool true)).setCell ⟨b, 0, none⟩ (.int .i64 m)).setCell ⟨b, 1, none⟩ (.int .i64 o)) b (St.cells ⟨m, o, true, 0⟩) 28 :=
  (((h.set 3 _).set 2 _).set 0 _).set 1 _
theorem put28b {w : World} {b : Nat} {s : St} (h : Has w b s.cells 28) (hh : s.has = true) (m o : Int) : Has (((w.setCell ⟨b, 3, none⟩ (.int .i64 0)).setCell ⟨b, 1, none⟩ (.int .i64 o)).setCell ⟨b, 0, none⟩ (.int .i64 m)) b (St.cells ⟨m, o, true, 0⟩) 28 := by
  have := ((h.set 3 (.int .i64 0)).set 1 (.int .i64 o)).set 0 (.int .i64 m)
  rw [← hh]
  exact this

set_option maxHeartbeats 4000000 in
theorem rmeasure_k (s : St) (b : Nat) (t : Int) (w : World) (h : RAt w b s) (ho : s.Ok) :
    Calls Try.prog 12 #[.pointer (some ⟨b, 0, none⟩), .int .i64 t] w fun e w' => e = .returned (.tuple #[]) ∧ RAt w' b (s.measure t) ∧ Ch (· = b) w w' := by
  unfold St.measure
  by_cases c0 : t < 0
  · rw [if_pos c0]
    go_enter Try.func12, Try.ntmps12
    go_wp2
    exact bodyPost_ret (v := .tuple #[]) (by simp [results, Try.results12, go_sem]) rfl ⟨rfl, h, Ch.refl _ _⟩
  rw [if_neg c0]
  have hx := cut_bd t (by omega)
  have hcut : (t ≤ 1099511627776 ∧ cut t = t) ∨ (1099511627776 < t ∧ cut t = 1099511627776) := by unfold cut; split <;> omega
  have m0 := ho.m0
  have m1 := ho.m1
  have o0 := ho.o0
  have o1 := ho.o1
  have c0' : w.cell? ⟨b, 0, none⟩ = some (.int .i64 s.m) := h.cell rfl
  have c1 : w.cell? ⟨b, 1, none⟩ = some (.int .i64 s.o) := h.cell rfl
  have c3 : w.cell? ⟨b, 3, none⟩ = some (.int .i64 s.bk) := h.cell rfl
  have f0 := Has.free h 0
  have f1 := Has.free h 1
  have f2 := Has.free h 2
  have f3 := Has.free h 3
  by_cases hh : s.has = true
  · have c2 : w.cell? ⟨b, 2, none⟩ = some (.bool true) := h.cell (by rw [← hh]; rfl)
    unfold St.next
    rw [if_pos hh]
    have P := fun m o => Lib.hid (put28b h hh m o)
    clear hh h
    rcases hcut with ⟨ct, ec⟩ | ⟨ct, ec⟩
    · rw [ec]
      rw [ec] at hx
      clear ec
      by_cases cm : s.m / 8 < t
      · skip
        have em : s.m + (t - s.m / 8) = s.m - s.m / 8 + t := by omega
        have eo : off s t = s.o - s.o / 4 + -(s.m / 8 - t) := by unfold off; split <;> omega
        rw [em, eo]
        clear em eo hx
        go_enter Try.func12, Try.ntmps12
        go_wp2
        go_region
        go_wp2
        go_end0
        exact ⟨rfl, (P _ _).out, Ch.atb (Ch.drew (Ch.atb (Ch.atb (Ch.refl _ _) _ _) _ _)) _ _⟩
      · skip
        have em : s.m + (t - s.m / 8) = s.m - s.m / 8 + t := by omega
        have eo : off s t = s.o - s.o / 4 + (s.m / 8 - t) := by unfold off; split <;> omega
        rw [em, eo]
        clear em eo hx
        go_enter Try.func12, Try.ntmps12
        go_wp2
        go_region
        go_wp2
        go_end0
        exact ⟨rfl, (P _ _).out, Ch.atb (Ch.drew (Ch.atb (Ch.atb (Ch.refl _ _) _ _) _ _)) _ _⟩
    · rw [ec]
      clear ec
      have hx : True := trivial
      by_cases cm : s.m / 8 < 1099511627776
      · skip
        have em : s.m + (1099511627776 - s.m / 8) = s.m - s.m / 8 + 1099511627776 := by omega
        have eo : off s 1099511627776 = s.o - s.o / 4 + -(s.m / 8 - 1099511627776) := by unfold off; split <;> omega
        rw [em, eo]
        clear em eo hx
        go_enter Try.func12, Try.ntmps12
        go_wp2
        go_region
        go_wp2
        go_end0
        exact ⟨rfl, (P _ _).out, Ch.atb (Ch.drew (Ch.atb (Ch.atb (Ch.refl _ _) _ _) _ _)) _ _⟩
      · skip
        have em : s.m + (1099511627776 - s.m / 8) = s.m - s.m / 8 + 1099511627776 := by omega
        have eo : off s 1099511627776 = s.o - s.o / 4 + (s.m / 8 - 1099511627776) := by unfold off; split <;> omega
        rw [em, eo]
        clear em eo hx
        go_enter Try.func12, Try.ntmps12
        go_wp2
        go_region
        go_wp2
        go_end0
        exact ⟨rfl, (P _ _).out, Ch.atb (Ch.drew (Ch.atb (Ch.atb (Ch.refl _ _) _ _) _ _)) _ _⟩
  · have c2 : w.cell? ⟨b, 2, none⟩ = some (.bool false) := h.cell (by rw [← (show s.has = false by simpa using hh)]; rfl)
    unfold St.next
    rw [if_neg hh]
    clear hh
    rcases hcut with ⟨ct, ec⟩ | ⟨ct, ec⟩
    · rw [ec]
      rw [ec] at hx
      clear ec
      have P := Lib.hid (put28 h (8 * t) (2 * t))
      clear h
      go_enter Try.func12, Try.ntmps12
      go_wp2
      exact bodyPost_ret (v := .tuple #[]) (by simp [results, Try.results12, go_sem]) rfl ⟨rfl, P.out, by repeat (first | exact Ch.refl _ _ | apply Ch.atb)⟩
    · rw [ec]
      clear ec hx
      have P := Lib.hid (put28 h (8 * 1099511627776) (2 * 1099511627776))
      clear h
      go_enter Try.func12, Try.ntmps12
      go_wp2
      exact bodyPost_ret (v := .tuple #[]) (by simp [results, Try.results12, go_sem]) rfl ⟨rfl, P.out, by repeat (first | exact Ch.refl _ _ | apply Ch.atb)⟩
end Go.Proofs.Ytfdbmpohegdpjaa.Rto
