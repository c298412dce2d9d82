/- For every number of queues, every table, every list of cores and every hash the law SteerTables of the package stevedorelaw05 answers true: which tables there are, and which queue and core a hash comes to. No condition beyond the kinds and the lists' memory. -/
import Derived.Test.YtocgjkkkblmfaaaPSteerTablesx2
import Derived.OpenShut
namespace Go.Proofs.Ytocgjkkkblmfaaa.Pure
open Go.RowKit Go.Proofs.Ytocgjkkkblmfaaa.PSteerTables Go.Proofs.YtocgjkkkblmfaaaW.PrintWords Go.Proofs.YtocgjkkkblmfaaaW.PrintLast

theorem works_eq : stevedorelaw05_works.f 200 = some true := by decide +kernel
theorem works_more (m : Nat) : stevedorelaw05_works.f (200 + m) = some true := by
  induction m with
  | zero => exact works_eq
  | succ m ih => exact stevedorelaw05_works.mono (200 + m) _ ih

theorem core_eq (x3 : Int) (x2 : List Int) (h3 : 0 ≤ x3 ∧ x3 ≤ 4294967295) (h2 : x2.length ≤ 1024) :
    IntKind.u64.wrap (IntKind.u64.wrap x3 * IntKind.u64.wrap (x2.length : Int)) = x3 * x2.length := by
  have wr : ∀ z : Int, IntKind.u64.wrap z = z % 18446744073709551616 := Aid.wrap_u64
  have hn : 0 ≤ x3 * (x2.length : Int) ∧ x3 * (x2.length : Int) ≤ 4294967295 * 1024 :=
    ⟨Int.mul_nonneg h3.1 (by omega), Int.mul_le_mul h3.2 (by omega) (by omega) (by omega)⟩
  rw [wr x3, wr (x2.length : Int), wr, Int.emod_eq_of_lt (a := x3) h3.1 (by omega), Int.emod_eq_of_lt (a := (x2.length : Int)) (by omega) (by omega)]
  exact Int.emod_eq_of_lt hn.1 (by omega)

theorem j4_eq (m : Nat) (x2 : List Int) (x3 : Int) (h3 : 0 ≤ x3 ∧ x3 ≤ 4294967295) (h2 : x2.length ≤ 1024) :
    stevedorelaw05_SteerTables.j4 (200 + m + 1) x2 x3 false = some true := by
  simp only [stevedorelaw05_SteerTables.j4]
  rw [if_neg (by simp), if_pos (by simp; omega), List.nil_append]
  unfold steer_Core.f
  rw [core_eq x3 x2 h3 h2]
  have hn : 0 ≤ x3 * (x2.length : Int) ∧ x3 * (x2.length : Int) ≤ 4294967295 * x2.length :=
    ⟨Int.mul_nonneg h3.1 (by omega), Int.mul_le_mul_of_nonneg_right h3.2 (by omega)⟩
  by_cases h0 : (x2.length : Int) = 0
  · rw [if_pos h0, Option.bind_some, if_neg (by simp [h0]), if_neg (by simp), if_pos rfl, works_more m]
    rfl
  · generalize hm : x3 * (x2.length : Int) = p at *
    have hlt : p / 4294967296 < x2.length := by omega
    have hp : decide ((x2.length : Int) > 0) = true := decide_eq_true (by omega)
    rw [if_neg h0, if_pos (by omega), if_pos hlt, Option.bind_some, hp, if_neg (by simp), if_pos rfl, if_pos (by omega), if_pos hlt, if_pos rfl, works_more m]
    rfl

theorem j3_eq (m : Nat) (x1 x2 : List Int) (x3 : Int) (h3 : 0 ≤ x3 ∧ x3 ≤ 4294967295) (h1 : x1.length ≤ 1024) (h2 : x2.length ≤ 1024) :
    stevedorelaw05_SteerTables.j3 (200 + m + 2) x1 x2 x3 = some true := by
  simp only [stevedorelaw05_SteerTables.j3]
  rw [if_pos (by simp; omega), List.nil_append]
  have hw : wrap64 x3 = x3 := by unfold wrap64; omega
  rw [hw]
  unfold steer_Pick.f
  have ht : Int.tmod x3 128 = x3 % 128 := Int.tmod_eq_emod_of_nonneg h3.1
  rw [ht]
  by_cases h0 : (x1.length : Int) = 128
  · have ha : 0 ≤ x3 % 128 := by omega
    have hb : x3 % 128 < (x1.length : Int) := by omega
    rw [if_pos h0, if_pos ha, if_pos hb, Option.bind_some, if_neg (by simp; omega), if_pos rfl, if_pos ha, if_pos hb, if_pos rfl]
    exact j4_eq m x2 x3 h3 h2
  · rw [if_neg h0, Option.bind_some, if_neg (by simp; omega), if_neg (by simp)]
    exact j4_eq m x2 x3 h3 h2

theorem l0_eq (m : Nat) (x0 : Int) (x1 x2 : List Int) (x3 : Int) (x9 : List Int) (hx0 : x0 ≠ 0) (h9 : x9.length = 128) (hr : ∀ i : Nat, i < 128 → rd x9 (i : Int) = Int.tmod (i : Int) x0) (h3 : 0 ≤ x3 ∧ x3 ≤ 4294967295) (h1 : x1.length ≤ 1024) (h2 : x2.length ≤ 1024) :
    ∀ d i : Nat, i + d = 128 → stevedorelaw05_SteerTables.l0 (200 + m + 2 + d + 1) x0 x1 x2 x3 x9 i = some true := by
  intro d
  induction d with
  | zero =>
    intro i hi
    simp only [stevedorelaw05_SteerTables.l0]
    rw [if_neg (by omega)]
    exact j3_eq m x1 x2 x3 h3 h1 h2
  | succ d ih =>
    intro i hi
    rw [stevedorelaw05_SteerTables.l0, if_pos (by omega), if_pos (by omega), if_neg hx0, if_pos (hr i (by omega))]
    have hw : wrap64 ((i : Int) + 1) = ((i + 1 : Nat) : Int) := by unfold wrap64; omega
    rw [hw]
    exact ih (i + 1) (by omega)

theorem even_eq (a0 : Int) (h : 1 ≤ a0 ∧ a0 ≤ 8) : ∃ t, steer_Even.f 300 a0 = some t ∧ t.length = 128 ∧ ∀ i : Nat, i < 128 → rd t (i : Int) = Int.tmod (i : Int) a0 := by
  obtain rfl | rfl | rfl | rfl | rfl | rfl | rfl | rfl : a0 = 1 ∨ a0 = 2 ∨ a0 = 3 ∨ a0 = 4 ∨ a0 = 5 ∨ a0 = 6 ∨ a0 = 7 ∨ a0 = 8 := by omega
  · exact ⟨(List.range 128).map fun (i : Nat) => Int.tmod (i : Int) 1, by decide +kernel, by decide +kernel, by decide +kernel⟩
  · exact ⟨(List.range 128).map fun (i : Nat) => Int.tmod (i : Int) 2, by decide +kernel, by decide +kernel, by decide +kernel⟩
  · exact ⟨(List.range 128).map fun (i : Nat) => Int.tmod (i : Int) 3, by decide +kernel, by decide +kernel, by decide +kernel⟩
  · exact ⟨(List.range 128).map fun (i : Nat) => Int.tmod (i : Int) 4, by decide +kernel, by decide +kernel, by decide +kernel⟩
  · exact ⟨(List.range 128).map fun (i : Nat) => Int.tmod (i : Int) 5, by decide +kernel, by decide +kernel, by decide +kernel⟩
  · exact ⟨(List.range 128).map fun (i : Nat) => Int.tmod (i : Int) 6, by decide +kernel, by decide +kernel, by decide +kernel⟩
  · exact ⟨(List.range 128).map fun (i : Nat) => Int.tmod (i : Int) 7, by decide +kernel, by decide +kernel, by decide +kernel⟩
  · exact ⟨(List.range 128).map fun (i : Nat) => Int.tmod (i : Int) 8, by decide +kernel, by decide +kernel, by decide +kernel⟩
theorem even_none (a0 : Int) (h : ¬ (1 ≤ a0 ∧ a0 ≤ 8)) : steer_Even.f 1 a0 = some [] := by
  unfold steer_Even.f
  by_cases h0 : a0 < 1
  · rw [if_pos h0]; simp [steer_Even.j0]
  · rw [if_neg h0]
    have : decide (a0 > 8) = true := decide_eq_true (by omega)
    rw [this]; simp [steer_Even.j0]
theorem even_more {n : Nat} {a0 : Int} {t : List Int} (h : steer_Even.f n a0 = some t) (m : Nat) : steer_Even.f (n + m) a0 = some t := by
  induction m with
  | zero => exact h
  | succ m ih => exact steer_Even.mono a0 (n + m) _ ih

theorem SteerTables : stevedorelaw05_SteerTables.Pure := by
  intro a0 l1 l2 a3 _ _ _ _ _ _ _ h3
  have h3 : 0 ≤ a3 ∧ a3 ≤ 4294967295 := by
    have := bounds_u32 h3
    omega
  refine ⟨600, ?_⟩
  have hw : ∀ x1 x2, stevedorelaw05_SteerTables.j0 600 a0 x1 x2 a3 true = some true := by
    intro x1 x2
    rw [stevedorelaw05_SteerTables.j0, if_pos rfl, works_more 399]
    rfl
  unfold stevedorelaw05_SteerTables.f
  by_cases g1 : (l1.length : Int) > 1024
  · rw [if_pos g1]; exact hw l1 l2
  rw [if_neg g1]
  by_cases g2 : (l2.length : Int) > 1024
  · have : decide ((l2.length : Int) > 1024) = true := decide_eq_true g2
    rw [this]; exact hw l1 l2
  have : decide ((l2.length : Int) > 1024) = false := decide_eq_false g2
  rw [this, stevedorelaw05_SteerTables.j0, if_neg (by simp)]
  by_cases h0 : 1 ≤ a0 ∧ a0 ≤ 8
  · obtain ⟨t, e, hl, hr⟩ := even_eq a0 h0
    have hd : decide (a0 > 8) = false := decide_eq_false (by omega)
    rw [even_more e 299, Option.bind_some, if_neg (by omega), hd, stevedorelaw05_SteerTables.j1, if_neg (by simp), if_pos (by omega)]
    exact l0_eq 267 a0 l1 l2 a3 t (by omega) hl hr h3 (by omega) (by omega) 128 0 rfl
  · have hj : stevedorelaw05_SteerTables.j1 599 a0 l1 l2 a3 [] true = some true := by
      rw [stevedorelaw05_SteerTables.j1, if_pos rfl, if_pos (by rfl)]
      exact j3_eq 396 l1 l2 a3 h3 (by omega) (by omega)
    have he : steer_Even.f 599 a0 = some [] := by have := even_more (even_none a0 h0) 598; rwa [Nat.add_comm 1 598] at this
    rw [he, Option.bind_some]
    by_cases h1 : a0 < 1
    · rw [if_pos h1]; exact hj
    · have hd : decide (a0 > 8) = true := decide_eq_true (by omega)
      rw [if_neg h1, hd]; exact hj

end Go.Proofs.Ytocgjkkkblmfaaa.Pure
