/- For every number of cores and every two hashes the law SteerSpreads of the package stevedorelaw05 answers true: the cores of a list are told by rows of hashes that stand side by side, as even as can be. No condition beyond the numbers' kinds. -/
import Derived.Test.YtocgjkkkblmfaaaPSteerSpreadsx1
import Derived.OpenShut
namespace Go.Proofs.Ytocgjkkkblmfaaa.Pure
open Go.RowKit Go.Proofs.Ytocgjkkkblmfaaa.PSteerSpreads Go.Proofs.YtocgjkkkblmfaaaW.PrintWords Go.Proofs.YtocgjkkkblmfaaaW.PrintLast

theorem works_eq : stevedorelaw05_works.f 200 = some true := by decide +kernel
theorem works_more (m : Nat) : stevedorelaw05_works.f (200 + m) = some true := by
  induction m with
  | zero => exact works_eq
  | succ m ih => exact stevedorelaw05_works.mono (200 + m) _ ih

def ran (n : Nat) : List Int := (List.range n).map fun (i : Nat) => (i : Int)
theorem ran_length (n : Nat) : (ran n).length = n := by simp [ran]
theorem ran_snoc (n : Nat) : ran n ++ [(n : Int)] = ran (n + 1) := by simp [ran, List.range_succ]
theorem rd_ran (n : Nat) (x : Int) (h0 : 0 ≤ x) (h1 : x < n) : rd (ran n) x = x := by
  unfold rd ran
  have hl : x.toNat < ((List.range n).map fun (i : Nat) => (i : Int)).length := by simp; omega
  rw [List.getD_eq_getElem?_getD, List.getElem?_eq_getElem hl]
  simp
  omega

theorem core_eq (a : Int) (n : Nat) (ha : 0 ≤ a ∧ a ≤ 4294967295) (h1 : 1 ≤ n) (h2 : n ≤ 8) : steer_Core.f a (ran n) = some (a * n / 4294967296, true) := by
  unfold steer_Core.f
  rw [ran_length]
  have wr : ∀ z : Int, IntKind.u64.wrap z = z % 18446744073709551616 := Aid.wrap_u64
  have hn : 0 ≤ a * n ∧ a * (n : Int) ≤ 4294967295 * 8 ∧ a * n ≤ 4294967295 * n := by
    refine ⟨Int.mul_nonneg ha.1 (by omega), ?_, Int.mul_le_mul_of_nonneg_right ha.2 (by omega)⟩
    exact Int.mul_le_mul ha.2 (by omega) (by omega) (by omega)
  have e : IntKind.u64.wrap (IntKind.u64.wrap a * IntKind.u64.wrap (n : Int)) = a * n := by
    rw [wr a, wr (n : Int), wr, Int.emod_eq_of_lt (a := a) ha.1 (by omega), Int.emod_eq_of_lt (a := (n : Int)) (by omega) (by omega)]
    exact Int.emod_eq_of_lt hn.1 (by omega)
  rw [e, if_neg (by omega)]
  generalize hm : a * (n : Int) = m at *
  have hlt : m / 4294967296 < n := by omega
  rw [if_pos (by omega), if_pos hlt, rd_ran n _ (by omega) hlt]

theorem low_eq (x : Int) (n : Nat) (hx : 0 ≤ x ∧ x ≤ 9) (h1 : 1 ≤ n) (h2 : n ≤ 8) :
    IntKind.u64.wrap (Int.tdiv (IntKind.u64.wrap (IntKind.u64.wrap x * 4294967296)) (IntKind.u64.wrap (n : Int))) = x * 4294967296 / n := by
  have wr : ∀ z : Int, IntKind.u64.wrap z = z % 18446744073709551616 := Aid.wrap_u64
  rw [wr x, wr (n : Int), wr (_ * _), Int.emod_eq_of_lt (a := x) hx.1 (by omega), Int.emod_eq_of_lt (a := (n : Int)) (by omega) (by omega), Int.emod_eq_of_lt (a := x * 4294967296) (by omega) (by omega), wr]
  rw [Int.tdiv_eq_ediv_of_nonneg (by omega)]
  have hq0 : 0 ≤ x * 4294967296 / (n : Int) := Int.ediv_nonneg (by omega) (by omega)
  have hq1 : x * 4294967296 / (n : Int) ≤ x * 4294967296 := Int.ediv_le_self _ (by omega)
  exact Int.emod_eq_of_lt hq0 (by omega)

theorem spread_end (k : Nat) (a b : Int) (n : Nat) (hk : 200 ≤ k) (ha : 0 ≤ a ∧ a ≤ 4294967295) (hb : 0 ≤ b ∧ b ≤ 4294967295) (h1 : 1 ≤ n) (h2 : n ≤ 8) :
    stevedorelaw05_SteerSpreads.l0 (k + 1) a b n (ran n) n = some true := by
  obtain ⟨m, rfl⟩ : ∃ m, k = 200 + m := ⟨k - 200, by omega⟩
  simp only [stevedorelaw05_SteerSpreads.l0]
  have wr : ∀ z : Int, IntKind.u64.wrap z = z % 18446744073709551616 := Aid.wrap_u64
  have hw : wrap64 ((n : Int) - 1) = n - 1 := by unfold wrap64; omega
  have wa : IntKind.u64.wrap a = a := by rw [wr]; omega
  have hx : 0 ≤ a * n / 4294967296 ∧ a * n / 4294967296 < n ∧ (0 : Int) * n / 4294967296 = 0 ∧ 4294967295 * (n : Int) / 4294967296 = n - 1 ∧ (a ≤ b → a * n / 4294967296 ≤ b * n / 4294967296) ∧ a * n / 4294967296 * 4294967296 / n ≤ a ∧ a ≤ (a * n / 4294967296 + 1) * 4294967296 / n := by
    obtain rfl | rfl | rfl | rfl | rfl | rfl | rfl | rfl : n = 1 ∨ n = 2 ∨ n = 3 ∨ n = 4 ∨ n = 5 ∨ n = 6 ∨ n = 7 ∨ n = 8 := by omega
    all_goals omega
  obtain ⟨x0, x1, x2, x3, x4, x5, x6⟩ := hx
  rw [if_neg (by omega), core_eq a n ha h1 h2, core_eq b n hb h1 h2, core_eq 0 n (by omega) h1 h2, core_eq 4294967295 n (by omega) h1 h2, works_more m, hw]
  simp only [Option.bind_some]
  rw [x2, x3]
  generalize a * (n : Int) / 4294967296 = x at *
  generalize b * (n : Int) / 4294967296 = y at *
  have w1 : IntKind.u64.wrap (IntKind.u64.wrap x + 1) = x + 1 := by rw [wr, wr]; omega
  have l1 := low_eq x n (by omega) h1 h2
  have l2 := low_eq (x + 1) n (by omega) h1 h2
  have wx : IntKind.u64.wrap (x + 1) = x + 1 := by rw [wr]; omega
  have wn : IntKind.u64.wrap (n : Int) = n := by rw [wr]; omega
  rw [wx] at l2
  rw [if_pos rfl, if_pos rfl, if_neg (by omega), if_neg (by omega), w1, l1, l2, wa, wn]
  have hq0 : 0 ≤ (x + 1) * 4294967296 / (n : Int) := Int.ediv_nonneg (by omega) (by omega)
  have hq1 : (x + 1) * 4294967296 / (n : Int) ≤ (x + 1) * 4294967296 := Int.ediv_le_self _ (by omega)
  have w3 : IntKind.u64.wrap ((x + 1) * 4294967296 / (n : Int) + 1) = (x + 1) * 4294967296 / (n : Int) + 1 := by rw [wr]; exact Int.emod_eq_of_lt (by omega) (by omega)
  rw [w3]
  by_cases c : a ≤ b
  · rw [if_pos c, if_neg (by have := x4 c; omega), if_neg (by omega), if_pos x5, if_pos (by omega)]
  · rw [if_neg c, if_neg (by omega), if_pos x5, if_pos (by omega)]

theorem spread_loop (a b : Int) (n : Nat) (ha : 0 ≤ a ∧ a ≤ 4294967295) (hb : 0 ≤ b ∧ b ≤ 4294967295) (h1 : 1 ≤ n) (h2 : n ≤ 8) (d : Nat) :
    ∀ k i, i + d = n → 201 + d ≤ k → stevedorelaw05_SteerSpreads.l0 k a b n (ran i) i = some true := by
  induction d with
  | zero =>
    intro k i hi hk
    obtain ⟨k, rfl⟩ : ∃ m, k = m + 1 := ⟨k - 1, by omega⟩
    obtain rfl : i = n := by omega
    exact spread_end k a b i (by omega) ha hb h1 h2
  | succ d ih =>
    intro k i hi hk
    obtain ⟨k, rfl⟩ : ∃ m, k = m + 1 := ⟨k - 1, by omega⟩
    simp only [stevedorelaw05_SteerSpreads.l0]
    have e : wrap64 ((i : Int) + 1) = ((i + 1 : Nat) : Int) := by unfold wrap64; omega
    rw [if_pos (by omega), ran_length, if_pos (by omega), e, ran_snoc]
    exact ih k (i + 1) (by omega) (by omega)

theorem SteerSpreads : stevedorelaw05_SteerSpreads.Pure := by
  intro m a b wm wa wb
  have hm := bounds_u8 wm
  have ha := bounds_u32 wa
  have hb := bounds_u32 wb
  refine ⟨220, ?_⟩
  unfold stevedorelaw05_SteerSpreads.f
  have e : wrap64 (wrap64 (Int.tmod m 8) + 1) = m % 8 + 1 := by rw [Int.tmod_eq_emod_of_nonneg (by omega)]; unfold wrap64; omega
  obtain ⟨n, hn⟩ := Int.eq_ofNat_of_zero_le (show 0 ≤ m % 8 + 1 by omega)
  rw [e, hn]
  exact spread_loop a b n ⟨by omega, by omega⟩ ⟨by omega, by omega⟩ (by omega) (by omega) n 220 0 (by omega) (by omega)
end Go.Proofs.Ytocgjkkkblmfaaa.Pure
