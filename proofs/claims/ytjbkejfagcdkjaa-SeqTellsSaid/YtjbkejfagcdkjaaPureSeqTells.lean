/- For every four numbers the law SeqTells of the package stevedorelaw03 answers true (which of two numbers is ahead, by how much, what is in a window, which segments are wanted: the program tells as the reference). No condition beyond the numbers' kinds. -/
import Derived.Test.YtjbkejfagcdkjaaPSeqTellsx1
import Derived.OpenShut
namespace Go.Proofs.Ytjbkejfagcdkjaa.Pure
open Go.RowKit Go.Proofs.Ytjbkejfagcdkjaa.PSeqTells Go.Proofs.YtjbkejfagcdkjaaW.PrintWords Go.Proofs.YtjbkejfagcdkjaaW.PrintLast

theorem ahead_eq (a b : Int) (ha : 0 ≤ a ∧ a ≤ 4294967295) (hb : 0 ≤ b ∧ b ≤ 4294967295) : stevedoreref03_ahead.f a b = some ((b - a) % 4294967296) := by
  have e : wrap64 (wrap64 (wrap64 b - wrap64 a) + 4294967296) = b - a + 4294967296 := by unfold wrap64; omega
  unfold stevedoreref03_ahead.f
  rw [e, Int.tmod_eq_emod_of_nonneg (by omega)]
  congr 1
  omega

theorem less_eq (a b : Int) (ha : 0 ≤ a ∧ a ≤ 4294967295) (hb : 0 ≤ b ∧ b ≤ 4294967295) : stevedoreref03_Less.f a b = seq_Less.f a b := by
  unfold stevedoreref03_Less.f seq_Less.f
  rw [ahead_eq a b ha hb]
  simp only [Option.bind_some]
  unfold wrap32
  split
  · congr 1; exact decide_eq_decide.2 (by omega)
  · congr 1; symm; exact decide_eq_false (by omega)

theorem behind_eq (a b : Int) (ha : 0 ≤ a ∧ a ≤ 4294967295) (hb : 0 ≤ b ∧ b ≤ 4294967295) : stevedoreref03_Behind.f a b = seq_Behind.f a b := by
  unfold stevedoreref03_Behind.f seq_Behind.f
  rw [ahead_eq a b ha hb]
  simp only [Option.bind_some]
  unfold wrap64 wrap32
  split <;> (congr 1; omega)

theorem in_eq (a b n : Int) (ha : 0 ≤ a ∧ a ≤ 4294967295) (hb : 0 ≤ b ∧ b ≤ 4294967295) (hn : 0 ≤ n ∧ n ≤ 4294967295) : stevedoreref03_In.f a b n = seq_In.f a b n := by
  unfold stevedoreref03_In.f seq_In.f
  rw [ahead_eq b a hb ha]
  simp only [Option.bind_some]
  have e : wrap64 n = n := by unfold wrap64; omega
  rw [e]

theorem max_eq (a b : Int) (ha : 0 ≤ a ∧ a ≤ 4294967295) (hb : 0 ≤ b ∧ b ≤ 4294967295) : stevedoreref03_Max.f a b = seq_Max.f a b := by
  unfold stevedoreref03_Max.f seq_Max.f
  rw [less_eq a b ha hb]

theorem alive_eq : stevedorelaw03_alive.f = some true := by decide +kernel

theorem takes_eq (k : Nat) (a m b n : Int) (ha : 0 ≤ a ∧ a ≤ 4294967295) (hm : -9223372036854775808 ≤ m ∧ m ≤ 9223372036854775807) (hb : 0 ≤ b ∧ b ≤ 4294967295) (hn : 0 ≤ n ∧ n ≤ 4294967295) :
    stevedoreref03_Takes.f (k + 1) a m b n = seq_Takes.f a m b n := by
  unfold stevedoreref03_Takes.f seq_Takes.f
  by_cases c1 : m < 0
  · rw [if_pos c1, if_pos c1]
  rw [if_neg c1, if_neg c1]
  by_cases c2 : m = 0
  · rw [if_pos c2, if_pos c2]
    simp only [stevedoreref03_Takes.j0]
    by_cases c3 : n = 0
    · subst c3
      simp
      rw [Bool.eq_iff_iff]
      simp
    · have e3 : (n == 0) = false := by simpa using c3
      rw [e3, if_neg c3]
      simp only [Bool.false_eq_true, if_false]
      rw [if_pos c2, in_eq a b n ha hb hn]
      rfl
  · rw [if_neg c2, if_neg c2]
    simp only [stevedoreref03_Takes.j0, Bool.false_eq_true, if_false]
    rw [if_neg c2]
    have e : Int.tmod (wrap64 (wrap64 (wrap64 (wrap64 a + Int.tmod m 4294967296) + 4294967296) - 1)) 4294967296 % 4294967296 = (a + m - 1) % 4294967296 := by
      rw [Int.tmod_eq_emod_of_nonneg (a := m) (by omega)]
      have e1 : wrap64 (wrap64 (wrap64 (wrap64 a + m % 4294967296) + 4294967296) - 1) = a + m % 4294967296 + 4294967296 - 1 := by unfold wrap64; omega
      rw [e1, Int.tmod_eq_emod_of_nonneg (by omega)]
      omega
    rw [e, in_eq a b n ha hb hn, in_eq _ b n (by omega) hb hn]
    unfold seq_In.f
    simp only [Option.bind_some]
    have e2 : ((a + m - 1) % 4294967296 - b) % 4294967296 = (a + m - 1 - b) % 4294967296 := by omega
    rw [e2]
    by_cases c4 : n > 0
    · rw [if_pos c4]
      cases decide ((a - b) % 4294967296 < n) <;> simp
    · rw [if_neg c4]
      rw [decide_eq_false (show ¬ (a - b) % 4294967296 < n by omega), decide_eq_false (show ¬ (a + m - 1 - b) % 4294967296 < n by omega)]
      rfl

theorem SeqTells : stevedorelaw03_SeqTells.Pure := by
  intro a b n m wa wb wn wm
  have ha := bounds_u32 wa
  have hb := bounds_u32 wb
  have hn := bounds_u32 wn
  have hm := bounds_i64 wm
  refine ⟨1, ?_⟩
  unfold stevedorelaw03_SeqTells.f
  rw [less_eq a b ha hb, behind_eq a b ha hb, in_eq a b n ha hb hn, max_eq a b ha hb, takes_eq 0 a m b n ha (by omega) hb hn, alive_eq]
  obtain ⟨v1, h1⟩ : ∃ v, seq_Less.f a b = some v := ⟨_, rfl⟩
  obtain ⟨v2, h2⟩ : ∃ v, seq_Behind.f a b = some v := ⟨_, rfl⟩
  obtain ⟨v3, h3⟩ : ∃ v, seq_In.f a b n = some v := ⟨_, rfl⟩
  obtain ⟨v4, h4⟩ : ∃ v, seq_Max.f a b = some v := by
    unfold seq_Max.f; rw [h1]; simp only [Option.bind_some]; split <;> exact ⟨_, rfl⟩
  obtain ⟨v5, h5⟩ : ∃ v, seq_Takes.f a m b n = some v := by
    unfold seq_Takes.f; repeat' split
    all_goals exact ⟨_, rfl⟩
  rw [h1, h2, h3, h4, h5]
  simp

end Go.Proofs.Ytjbkejfagcdkjaa.Pure
