import Derived.Test.YtbodppjponepgaaCg4
namespace Go.Proofs.Ytbodppjponepgaa.Cg
open Go.RowKit Blk Go.Proofs.YtbodppjponepgaaW.PrintWords
theorem rmax2_mx (k k' : IntKind) (x y : Int) : Builtin.max2 (.int k x) (.int k' y) = pure (.int k (mx x y)) := Go.Proofs.YtbodppjponepgaaW.PrintMore.max2_int k k' x y
theorem rmin2_mn (k k' : IntKind) (x y : Int) : Builtin.min2 (.int k x) (.int k' y) = pure (.int k (mn x y)) := Go.Proofs.YtbodppjponepgaaW.PrintMore.min2_int k k' x y
attribute [local go_sem] rmax2_mx rmin2_mn Go.Proofs.YtbodppjponepgaaW.PrintMore.max_two Go.Proofs.YtbodppjponepgaaW.PrintMore.min_two
set_option linter.unusedVariables false

/-- The cells of the document's state. -/
def St.rc (s : St) : List Value := [.int .i64 s.mss, .int .i64 s.window, .int .i64 s.edge, .int .u8 s.state, .int .i64 s.twices, .int .i64 s.counted, .int .u32 (s.mark.getD 0), .bool s.mark.isSome]

theorem rahead_c (a b : Int) (w : World) (ha : 0 ≤ a ∧ a ≤ 4294967295) (hb : 0 ≤ b ∧ b ≤ 4294967295) : Calls Try.prog 30 #[.int .u32 a, .int .u32 b] w fun e w' => e = .returned (.int .i64 ((b - a + 4294967296) % 4294967296)) ∧ w = w' := by
  go_enter Try.func30, Try.ntmps30
  go_wp2
  go_ret
  exact ⟨rfl, rfl⟩
theorem less_eq (a b : Int) : less a b = decide (1 ≤ (b - a + 4294967296) % 4294967296 ∧ (b - a + 4294967296) % 4294967296 < 2147483648) := by
  unfold less wrap32
  rw [Bool.eq_iff_iff, decide_eq_true_iff, decide_eq_true_iff]
  omega
theorem rless_c (a b : Int) (w : World) (ha : 0 ≤ a ∧ a ≤ 4294967295) (hb : 0 ≤ b ∧ b ≤ 4294967295) : Calls Try.prog 29 #[.int .u32 a, .int .u32 b] w fun e w' => e = .returned (.bool (less a b)) ∧ w = w' := by
  rw [less_eq]
  have hx : 0 ≤ (b - a + 4294967296) % 4294967296 ∧ (b - a + 4294967296) % 4294967296 ≤ 4294967295 := by omega
  by_cases c : 1 ≤ (b - a + 4294967296) % 4294967296
  · by_cases c2 : (b - a + 4294967296) % 4294967296 < 2147483648
    · rw [decide_eq_true (show _ from ⟨c, c2⟩)]
      go_enter Try.func29, Try.ntmps29
      go_wp2_with fail
      refine (rahead_c a b w ha hb).mono ?_
      rintro e w' ⟨rfl, rfl⟩
      generalize (b - a + 4294967296) % 4294967296 = X at *
      go_wp2
      go_ret
      exact ⟨by first | rfl | (simp; omega), rfl⟩
    · rw [decide_eq_false (show ¬ _ from fun h => c2 h.2)]
      go_enter Try.func29, Try.ntmps29
      go_wp2_with fail
      refine (rahead_c a b w ha hb).mono ?_
      rintro e w' ⟨rfl, rfl⟩
      generalize (b - a + 4294967296) % 4294967296 = X at *
      go_wp2
      go_ret
      exact ⟨by first | rfl | (simp; omega), rfl⟩
  · rw [decide_eq_false (show ¬ _ from fun h => c h.1)]
    go_enter Try.func29, Try.ntmps29
    go_wp2_with fail
    refine (rahead_c a b w ha hb).mono ?_
    rintro e w' ⟨rfl, rfl⟩
    generalize (b - a + 4294967296) % 4294967296 = X at *
    go_wp2
    go_ret
    exact ⟨by first | rfl | (simp; omega), rfl⟩
theorem rbehind_c (s : St) (b : Nat) (una : Int) (w : World) (h : Has w b s.rc 42) (hu : 0 ≤ una ∧ una ≤ 4294967295) (hx : ∀ x, s.mark = some x → 0 ≤ x ∧ x ≤ 4294967295) :
    Calls Try.prog 26 #[.pointer (some ⟨b, 0, none⟩), .int .u32 una] w fun e w' => e = .returned (.bool (s.passed una)) ∧ w = w' := by
  cases hm : s.mark with
  | none =>
    have c7 : w.cell? ⟨b, 7, none⟩ = some (.bool false) := by have := h.cell (i := 7) rfl; rw [this, hm]; rfl
    have HP := Lib.hid (show s.passed una = true by unfold St.passed; rw [hm])
    clear hm h
    go_enter Try.func26, Try.ntmps26
    go_wp2
    go_ret
    exact ⟨by rw [HP.out]; rfl, rfl⟩
  | some x =>
    have c7 : w.cell? ⟨b, 7, none⟩ = some (.bool true) := by have := h.cell (i := 7) rfl; rw [this, hm]; rfl
    have c6 : w.cell? ⟨b, 6, none⟩ = some (.int .u32 x) := by have := h.cell (i := 6) rfl; rw [this, hm]; rfl
    have hx1 := hx x hm
    have HP := Lib.hid (show s.passed una = (decide (una = x) || less x una) by unfold St.passed; rw [hm])
    clear hm h hx
    by_cases c : una = x
    · have e := beq_t c
      rw [HP.out, decide_eq_true c]
      clear c HP
      go_enter Try.func26, Try.ntmps26
      go_wp2
      go_ret
      exact ⟨rfl, rfl⟩
    · have e := beq_f c
      rw [HP.out, decide_eq_false c]
      clear c HP
      go_enter Try.func26, Try.ntmps26
      go_wp2_with fail
      refine (rless_c x una w hx1 hu).mono ?_
      rintro e w' ⟨rfl, rfl⟩
      go_wp2
      go_ret
      exact ⟨rfl, rfl⟩
theorem rhalf_c (m f : Int) (b : Nat) (w : World) (c0 : w.cell? ⟨b, 0, none⟩ = some (.int .i64 m)) (hm : 1 ≤ m ∧ m ≤ 65535) (hf : -9223372036854775808 ≤ f ∧ f ≤ 9223372036854775807) :
    Calls Try.prog 27 #[.pointer (some ⟨b, 0, none⟩), .int .i64 f] w fun e w' => e = .returned (.int .i64 (mx (f.tdiv 2) (2 * m))) ∧ w = w' := by
  have hw := half_wrap f hf
  go_enter Try.func27, Try.ntmps27
  go_wp2
  go_ret
  exact ⟨rfl, rfl⟩
theorem rnew_no (m : Int) (w : World) (h : m < 1 ∨ 65535 < m) : Calls Try.prog 13 #[.int .i64 m] w fun e w' => e = .returned (.pointer none) ∧ w = w' := by
  by_cases h1 : m < 1
  · go_enter Try.func13, Try.ntmps13
    go_wp2
    go_ret
    exact ⟨rfl, rfl⟩
  · have h2 : 65535 < m := by omega
    go_enter Try.func13, Try.ntmps13
    go_wp2
    go_ret
    exact ⟨rfl, rfl⟩
theorem rnew_c (m : Int) (w : World) (h : 1 ≤ m ∧ m ≤ 65535) : Calls Try.prog 13 #[.int .i64 m] w fun e w' => e = .returned (.pointer (some ⟨w.heap.size, 0, none⟩)) ∧ w' = w.alloc (.cells (start m).rc.toArray 42) := by
  go_enter Try.func13, Try.ntmps13
  go_wp2
  go_ret
  exact ⟨rfl, rfl⟩
end Go.Proofs.Ytbodppjponepgaa.Cg
