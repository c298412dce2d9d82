import Derived.Test.YtjbkejfagcdkjaaPSeqTellsx1
import Derived.FnLit
import Derived.OpenShut
namespace Go.Proofs.Ytjbkejfagcdkjaa.PSeqTells
open Go.RowKit Go.Proofs.YtjbkejfagcdkjaaW.PrintWords Go.Proofs.YtjbkejfagcdkjaaW.PrintLast Go.Proofs.YtjbkejfagcdkjaaW.PrintMore
set_option linter.unusedVariables false
set_option linter.unusedSimpArgs false

theorem less_of {a b : Int} {r : Bool} (h : decide (0 < ((b - a) % 4294967296 + 2147483648) % 4294967296 - 2147483648) = r) : seq_Less.f a b = some r := by
  unfold seq_Less.f wrap32; rw [← h]
theorem behind_of {a b r : Int} (h : ((b - a) % 4294967296 + 2147483648) % 4294967296 - 2147483648 = r) : seq_Behind.f a b = some r := by
  unfold seq_Behind.f wrap32; rw [← h]; congr 1; unfold wrap64; omega
theorem in_of {a b n : Int} {r : Bool} (h : decide ((a - b) % 4294967296 < n) = r) : seq_In.f a b n = some r := by
  unfold seq_In.f; rw [← h]
theorem max_of {a b r : Int} (h : (if 0 < ((b - a) % 4294967296 + 2147483648) % 4294967296 - 2147483648 then b else a) = r) : seq_Max.f a b = some r := by
  unfold seq_Max.f seq_Less.f wrap32; rw [← h]; simp only [Option.bind_some, decide_eq_true_eq]; split <;> rfl

theorem alive_eq : stevedorelaw03_alive.f = some true := by decide +kernel

set_option maxHeartbeats 4000000 in
set_option maxRecDepth 100000 in
theorem order (a x0 y0 t : Int) (w : World) (ha : 0 ≤ a ∧ a ≤ 4294967295) (hx : 0 ≤ x0 ∧ x0 ≤ 4294967295) (hy : 0 ≤ y0 ∧ y0 ≤ 4294967295) (ht : 0 ≤ t ∧ t ≤ 4294967295) :
    Calls Try.prog 4 #[.int .u32 a, .int .u32 x0, .int .u32 y0, .int .u32 t] w fun e w' => e = .returned (.bool true) ∧ Below w.heap.size w w' := by
  go_enter Try.func4, Try.ntmps4
  go_wp2_with fail
  refine (seq_Less.calls _ _ (decide (0 < (x0 % 1073741824))) _ ?_).mono ?_
  · exact less_of (by rw [Bool.eq_iff_iff]; simp only [decide_eq_true_eq, Bool.false_eq_true, iff_false, iff_true]; omega)
  rintro e w' ⟨rfl, ⟨nd, rfl⟩⟩
  go_wp2_with fail
  refine (seq_Less.calls _ _ false _ ?_).mono ?_
  · exact less_of (by rw [Bool.eq_iff_iff]; simp only [decide_eq_true_eq, Bool.false_eq_true, iff_false, iff_true]; omega)
  rintro e w' ⟨rfl, ⟨nd, rfl⟩⟩
  go_wp2_with fail
  refine (seq_Less.calls _ _ (decide (0 < (x0 % 1073741824) + (y0 % 1073741824))) _ ?_).mono ?_
  · exact less_of (by rw [Bool.eq_iff_iff]; simp only [decide_eq_true_eq, Bool.false_eq_true, iff_false, iff_true]; omega)
  rintro e w' ⟨rfl, ⟨nd, rfl⟩⟩
  go_wp2_with fail
  refine (seq_Max.calls _ _ ((a + (x0 % 1073741824) + (y0 % 1073741824)) % 4294967296) _ ?_).mono ?_
  · exact max_of (by split <;> omega)
  rintro e w' ⟨rfl, ⟨nd, rfl⟩⟩
  go_wp2_with fail
  refine (seq_Max.calls _ _ ((a + (x0 % 1073741824) + (y0 % 1073741824)) % 4294967296) _ ?_).mono ?_
  · exact max_of (by split <;> omega)
  rintro e w' ⟨rfl, ⟨nd, rfl⟩⟩
  go_wp2_with fail
  refine (seq_Behind.calls _ _ ((x0 % 1073741824) + (y0 % 1073741824)) _ ?_).mono ?_
  · exact behind_of (by omega)
  rintro e w' ⟨rfl, ⟨nd, rfl⟩⟩
  go_wp2_with fail
  refine (seq_Behind.calls _ _ (-((x0 % 1073741824) + (y0 % 1073741824))) _ ?_).mono ?_
  · exact behind_of (by omega)
  rintro e w' ⟨rfl, ⟨nd, rfl⟩⟩
  go_wp2_with fail
  refine (seq_Behind.calls _ _ ((x0 % 1073741824) + (y0 % 1073741824)) _ ?_).mono ?_
  · exact behind_of (by omega)
  rintro e w' ⟨rfl, ⟨nd, rfl⟩⟩
  go_wp2_with fail
  refine (seq_Behind.calls _ _ ((x0 % 1073741824)) _ ?_).mono ?_
  · exact behind_of (by omega)
  rintro e w' ⟨rfl, ⟨nd, rfl⟩⟩
  go_wp2_with fail
  refine (seq_Behind.calls _ _ ((y0 % 1073741824)) _ ?_).mono ?_
  · exact behind_of (by omega)
  rintro e w' ⟨rfl, ⟨nd, rfl⟩⟩
  go_wp2_with fail
  refine (seq_Less.calls _ _ (decide (0 < (x0 % 1073741824) + (y0 % 1073741824))) _ ?_).mono ?_
  · exact less_of (by rw [Bool.eq_iff_iff]; simp only [decide_eq_true_eq, Bool.false_eq_true, iff_false, iff_true]; omega)
  rintro e w' ⟨rfl, ⟨nd, rfl⟩⟩
  go_wp2_with fail
  refine (seq_Less.calls _ _ (decide (0 < (x0 % 1073741824) + (y0 % 1073741824))) _ ?_).mono ?_
  · exact less_of (by rw [Bool.eq_iff_iff]; simp only [decide_eq_true_eq, Bool.false_eq_true, iff_false, iff_true]; omega)
  rintro e w' ⟨rfl, ⟨nd, rfl⟩⟩
  go_wp2_with fail
  refine (seq_Behind.calls _ _ ((x0 % 1073741824) + (y0 % 1073741824)) _ ?_).mono ?_
  · exact behind_of (by omega)
  rintro e w' ⟨rfl, ⟨nd, rfl⟩⟩
  go_wp2_with fail
  refine (seq_Behind.calls _ _ ((x0 % 1073741824) + (y0 % 1073741824)) _ ?_).mono ?_
  · exact behind_of (by omega)
  rintro e w' ⟨rfl, ⟨nd, rfl⟩⟩
  go_wp2_with fail
  refine (seq_In.calls _ _ _ (decide ((x0 % 1073741824) < (y0 % 1073741824))) _ ?_).mono ?_
  · exact in_of (by rw [Bool.eq_iff_iff]; simp only [decide_eq_true_eq, Bool.false_eq_true, iff_false, iff_true]; omega)
  rintro e w' ⟨rfl, ⟨nd, rfl⟩⟩
  go_wp2_with fail
  refine (seq_In.calls _ _ _ (decide ((x0 % 1073741824) < (y0 % 1073741824))) _ ?_).mono ?_
  · exact in_of (by rw [Bool.eq_iff_iff]; simp only [decide_eq_true_eq, Bool.false_eq_true, iff_false, iff_true]; omega)
  rintro e w' ⟨rfl, ⟨nd, rfl⟩⟩
  go_wp2_with fail
  refine (stevedorelaw03_alive.calls true _ alive_eq).mono ?_
  rintro e w' ⟨rfl, hb⟩
  go_wp2
  go_ret
  exact ⟨by simp, below_step (by repeat (first | exact Below.refl _ _ | apply pw_below_drewN)) hb⟩

set_option maxHeartbeats 4000000 in
set_option maxRecDepth 100000 in
theorem window (a n x : Int) (w : World) (ha : 0 ≤ a ∧ a ≤ 4294967295) (hn : 0 ≤ n ∧ n ≤ 4294967295) (hx : 0 ≤ x ∧ x ≤ 4294967295) :
    Calls Try.prog 5 #[.int .u32 a, .int .u32 n, .int .u32 x] w fun e w' => e = .returned (.bool true) ∧ Below w.heap.size w w' := by
  by_cases c0 : n = 0
  · subst c0
    clear hn
    go_enter Try.func5, Try.ntmps5
    go_wp2_with fail
    refine (seq_In.calls _ _ _ false _ ?_).mono ?_
    · exact in_of (by first | (apply decide_eq_true; omega) | (apply decide_eq_false; omega))
    rintro e w' ⟨rfl, ⟨nd, rfl⟩⟩
    go_wp2_with fail
    refine (seq_In.calls _ _ _ false _ ?_).mono ?_
    · exact in_of (by first | (apply decide_eq_true; omega) | (apply decide_eq_false; omega))
    rintro e w' ⟨rfl, ⟨nd, rfl⟩⟩
    go_wp2_with fail
    refine (seq_In.calls _ _ _ false _ ?_).mono ?_
    · exact in_of (by first | (apply decide_eq_true; omega) | (apply decide_eq_false; omega))
    rintro e w' ⟨rfl, ⟨nd, rfl⟩⟩
    go_wp2_with fail
    refine (seq_In.calls _ _ _ false _ ?_).mono ?_
    · exact in_of (by first | (apply decide_eq_true; omega) | (apply decide_eq_false; omega))
    rintro e w' ⟨rfl, ⟨nd, rfl⟩⟩
    go_wp2_with fail
    refine (seq_In.calls _ _ _ false _ ?_).mono ?_
    · exact in_of (by first | (apply decide_eq_true; omega) | (apply decide_eq_false; omega))
    rintro e w' ⟨rfl, ⟨nd, rfl⟩⟩
    go_wp2_with fail
    refine (stevedorelaw03_alive.calls true _ alive_eq).mono ?_
    rintro e w' ⟨rfl, hb⟩
    go_wp2
    go_ret
    exact ⟨by simp, below_step (by repeat (first | exact Below.refl _ _ | apply pw_below_drewN)) hb⟩
  · have e0 : (n == 0) = false := beq_eq_false_iff_ne.2 c0
    have p0 : 0 < n := by omega
    clear c0
    by_cases cq : (x - a) % 4294967296 < n
    · by_cases cx : x = a
      · subst cx
        by_cases cv : n = 4294967295
        · subst cv
          clear hn p0 e0 cq
          go_enter Try.func5, Try.ntmps5
          go_wp2_with fail
          refine (seq_In.calls _ _ _ true _ ?_).mono ?_
          · exact in_of (by first | (apply decide_eq_true; omega) | (apply decide_eq_false; omega))
          rintro e w' ⟨rfl, ⟨nd, rfl⟩⟩
          go_wp2_with fail
          refine (seq_In.calls _ _ _ true _ ?_).mono ?_
          · exact in_of (by first | (apply decide_eq_true; omega) | (apply decide_eq_false; omega))
          rintro e w' ⟨rfl, ⟨nd, rfl⟩⟩
          go_wp2_with fail
          refine (seq_In.calls _ _ _ false _ ?_).mono ?_
          · exact in_of (by first | (apply decide_eq_true; omega) | (apply decide_eq_false; omega))
          rintro e w' ⟨rfl, ⟨nd, rfl⟩⟩
          go_wp2_with fail
          refine (seq_In.calls _ _ _ false _ ?_).mono ?_
          · exact in_of (by first | (apply decide_eq_true; omega) | (apply decide_eq_false; omega))
          rintro e w' ⟨rfl, ⟨nd, rfl⟩⟩
          go_wp2_with fail
          refine (seq_In.calls _ _ _ true _ ?_).mono ?_
          · exact in_of (by first | (apply decide_eq_true; omega) | (apply decide_eq_false; omega))
          rintro e w' ⟨rfl, ⟨nd, rfl⟩⟩
          go_wp2_with fail
          refine (seq_In.calls _ _ _ false _ ?_).mono ?_
          · exact in_of (by first | (apply decide_eq_true; omega) | (apply decide_eq_false; omega))
          rintro e w' ⟨rfl, ⟨nd, rfl⟩⟩
          go_wp2_with fail
          refine (seq_In.calls _ _ _ false _ ?_).mono ?_
          · exact in_of (by first | (apply decide_eq_true; omega) | (apply decide_eq_false; omega))
          rintro e w' ⟨rfl, ⟨nd, rfl⟩⟩
          go_wp2_with fail
          refine (seq_In.calls _ _ _ true _ ?_).mono ?_
          · exact in_of (by first | (apply decide_eq_true; omega) | (apply decide_eq_false; omega))
          rintro e w' ⟨rfl, ⟨nd, rfl⟩⟩
          go_wp2_with fail
          refine (stevedorelaw03_alive.calls true _ alive_eq).mono ?_
          rintro e w' ⟨rfl, hb⟩
          go_wp2
          go_ret
          exact ⟨by simp, below_step (by repeat (first | exact Below.refl _ _ | apply pw_below_drewN)) hb⟩
        · have bv : n < 4294967295 := by omega
          clear cv hn
          go_enter Try.func5, Try.ntmps5
          go_wp2_with fail
          refine (seq_In.calls _ _ _ true _ ?_).mono ?_
          · exact in_of (by first | (apply decide_eq_true; omega) | (apply decide_eq_false; omega))
          rintro e w' ⟨rfl, ⟨nd, rfl⟩⟩
          go_wp2_with fail
          refine (seq_In.calls _ _ _ true _ ?_).mono ?_
          · exact in_of (by first | (apply decide_eq_true; omega) | (apply decide_eq_false; omega))
          rintro e w' ⟨rfl, ⟨nd, rfl⟩⟩
          go_wp2_with fail
          refine (seq_In.calls _ _ _ false _ ?_).mono ?_
          · exact in_of (by first | (apply decide_eq_true; omega) | (apply decide_eq_false; omega))
          rintro e w' ⟨rfl, ⟨nd, rfl⟩⟩
          go_wp2_with fail
          refine (seq_In.calls _ _ _ false _ ?_).mono ?_
          · exact in_of (by first | (apply decide_eq_true; omega) | (apply decide_eq_false; omega))
          rintro e w' ⟨rfl, ⟨nd, rfl⟩⟩
          go_wp2_with fail
          refine (seq_In.calls _ _ _ true _ ?_).mono ?_
          · exact in_of (by first | (apply decide_eq_true; omega) | (apply decide_eq_false; omega))
          rintro e w' ⟨rfl, ⟨nd, rfl⟩⟩
          go_wp2_with fail
          refine (seq_In.calls _ _ _ true _ ?_).mono ?_
          · exact in_of (by first | (apply decide_eq_true; omega) | (apply decide_eq_false; omega))
          rintro e w' ⟨rfl, ⟨nd, rfl⟩⟩
          go_wp2_with fail
          refine (seq_In.calls _ _ _ false _ ?_).mono ?_
          · exact in_of (by first | (apply decide_eq_true; omega) | (apply decide_eq_false; omega))
          rintro e w' ⟨rfl, ⟨nd, rfl⟩⟩
          go_wp2_with fail
          refine (seq_In.calls _ _ _ true _ ?_).mono ?_
          · exact in_of (by first | (apply decide_eq_true; omega) | (apply decide_eq_false; omega))
          rintro e w' ⟨rfl, ⟨nd, rfl⟩⟩
          go_wp2_with fail
          refine (stevedorelaw03_alive.calls true _ alive_eq).mono ?_
          rintro e w' ⟨rfl, hb⟩
          go_wp2
          go_ret
          exact ⟨by simp, below_step (by repeat (first | exact Below.refl _ _ | apply pw_below_drewN)) hb⟩
      · have ex : (x == a) = false := beq_eq_false_iff_ne.2 cx
        by_cases cv : n = 4294967295
        · subst cv
          clear hn p0 e0
          go_enter Try.func5, Try.ntmps5
          go_wp2_with fail
          refine (seq_In.calls _ _ _ true _ ?_).mono ?_
          · exact in_of (by first | (apply decide_eq_true; omega) | (apply decide_eq_false; omega))
          rintro e w' ⟨rfl, ⟨nd, rfl⟩⟩
          go_wp2_with fail
          refine (seq_In.calls _ _ _ true _ ?_).mono ?_
          · exact in_of (by first | (apply decide_eq_true; omega) | (apply decide_eq_false; omega))
          rintro e w' ⟨rfl, ⟨nd, rfl⟩⟩
          go_wp2_with fail
          refine (seq_In.calls _ _ _ false _ ?_).mono ?_
          · exact in_of (by first | (apply decide_eq_true; omega) | (apply decide_eq_false; omega))
          rintro e w' ⟨rfl, ⟨nd, rfl⟩⟩
          go_wp2_with fail
          refine (seq_In.calls _ _ _ false _ ?_).mono ?_
          · exact in_of (by first | (apply decide_eq_true; omega) | (apply decide_eq_false; omega))
          rintro e w' ⟨rfl, ⟨nd, rfl⟩⟩
          go_wp2_with fail
          refine (seq_In.calls _ _ _ true _ ?_).mono ?_
          · exact in_of (by first | (apply decide_eq_true; omega) | (apply decide_eq_false; omega))
          rintro e w' ⟨rfl, ⟨nd, rfl⟩⟩
          go_wp2_with fail
          refine (seq_In.calls _ _ _ false _ ?_).mono ?_
          · exact in_of (by first | (apply decide_eq_true; omega) | (apply decide_eq_false; omega))
          rintro e w' ⟨rfl, ⟨nd, rfl⟩⟩
          go_wp2_with fail
          refine (seq_In.calls _ _ _ true _ ?_).mono ?_
          · exact in_of (by first | (apply decide_eq_true; omega) | (apply decide_eq_false; omega))
          rintro e w' ⟨rfl, ⟨nd, rfl⟩⟩
          go_wp2_with fail
          refine (seq_In.calls _ _ _ true _ ?_).mono ?_
          · exact in_of (by first | (apply decide_eq_true; omega) | (apply decide_eq_false; omega))
          rintro e w' ⟨rfl, ⟨nd, rfl⟩⟩
          go_wp2_with fail
          refine (seq_In.calls _ _ _ true _ ?_).mono ?_
          · exact in_of (by first | (apply decide_eq_true; omega) | (apply decide_eq_false; omega))
          rintro e w' ⟨rfl, ⟨nd, rfl⟩⟩
          go_wp2_with fail
          refine (stevedorelaw03_alive.calls true _ alive_eq).mono ?_
          rintro e w' ⟨rfl, hb⟩
          go_wp2
          go_ret
          exact ⟨by simp, below_step (by repeat (first | exact Below.refl _ _ | apply pw_below_drewN)) hb⟩
        · have bv : n < 4294967295 := by omega
          clear cv hn
          go_enter Try.func5, Try.ntmps5
          go_wp2_with fail
          refine (seq_In.calls _ _ _ true _ ?_).mono ?_
          · exact in_of (by first | (apply decide_eq_true; omega) | (apply decide_eq_false; omega))
          rintro e w' ⟨rfl, ⟨nd, rfl⟩⟩
          go_wp2_with fail
          refine (seq_In.calls _ _ _ true _ ?_).mono ?_
          · exact in_of (by first | (apply decide_eq_true; omega) | (apply decide_eq_false; omega))
          rintro e w' ⟨rfl, ⟨nd, rfl⟩⟩
          go_wp2_with fail
          refine (seq_In.calls _ _ _ false _ ?_).mono ?_
          · exact in_of (by first | (apply decide_eq_true; omega) | (apply decide_eq_false; omega))
          rintro e w' ⟨rfl, ⟨nd, rfl⟩⟩
          go_wp2_with fail
          refine (seq_In.calls _ _ _ false _ ?_).mono ?_
          · exact in_of (by first | (apply decide_eq_true; omega) | (apply decide_eq_false; omega))
          rintro e w' ⟨rfl, ⟨nd, rfl⟩⟩
          go_wp2_with fail
          refine (seq_In.calls _ _ _ true _ ?_).mono ?_
          · exact in_of (by first | (apply decide_eq_true; omega) | (apply decide_eq_false; omega))
          rintro e w' ⟨rfl, ⟨nd, rfl⟩⟩
          go_wp2_with fail
          refine (seq_In.calls _ _ _ true _ ?_).mono ?_
          · exact in_of (by first | (apply decide_eq_true; omega) | (apply decide_eq_false; omega))
          rintro e w' ⟨rfl, ⟨nd, rfl⟩⟩
          go_wp2_with fail
          refine (seq_In.calls _ _ _ true _ ?_).mono ?_
          · exact in_of (by first | (apply decide_eq_true; omega) | (apply decide_eq_false; omega))
          rintro e w' ⟨rfl, ⟨nd, rfl⟩⟩
          go_wp2_with fail
          refine (seq_In.calls _ _ _ true _ ?_).mono ?_
          · exact in_of (by first | (apply decide_eq_true; omega) | (apply decide_eq_false; omega))
          rintro e w' ⟨rfl, ⟨nd, rfl⟩⟩
          go_wp2_with fail
          refine (seq_In.calls _ _ _ true _ ?_).mono ?_
          · exact in_of (by first | (apply decide_eq_true; omega) | (apply decide_eq_false; omega))
          rintro e w' ⟨rfl, ⟨nd, rfl⟩⟩
          go_wp2_with fail
          refine (stevedorelaw03_alive.calls true _ alive_eq).mono ?_
          rintro e w' ⟨rfl, hb⟩
          go_wp2
          go_ret
          exact ⟨by simp, below_step (by repeat (first | exact Below.refl _ _ | apply pw_below_drewN)) hb⟩
    · have cx : ¬ x = a := by omega
      have ex : (x == a) = false := beq_eq_false_iff_ne.2 cx
      go_enter Try.func5, Try.ntmps5
      go_wp2_with fail
      refine (seq_In.calls _ _ _ true _ ?_).mono ?_
      · exact in_of (by first | (apply decide_eq_true; omega) | (apply decide_eq_false; omega))
      rintro e w' ⟨rfl, ⟨nd, rfl⟩⟩
      go_wp2_with fail
      refine (seq_In.calls _ _ _ true _ ?_).mono ?_
      · exact in_of (by first | (apply decide_eq_true; omega) | (apply decide_eq_false; omega))
      rintro e w' ⟨rfl, ⟨nd, rfl⟩⟩
      go_wp2_with fail
      refine (seq_In.calls _ _ _ false _ ?_).mono ?_
      · exact in_of (by first | (apply decide_eq_true; omega) | (apply decide_eq_false; omega))
      rintro e w' ⟨rfl, ⟨nd, rfl⟩⟩
      go_wp2_with fail
      refine (seq_In.calls _ _ _ false _ ?_).mono ?_
      · exact in_of (by first | (apply decide_eq_true; omega) | (apply decide_eq_false; omega))
      rintro e w' ⟨rfl, ⟨nd, rfl⟩⟩
      go_wp2_with fail
      refine (seq_In.calls _ _ _ false _ ?_).mono ?_
      · exact in_of (by first | (apply decide_eq_true; omega) | (apply decide_eq_false; omega))
      rintro e w' ⟨rfl, ⟨nd, rfl⟩⟩
      go_wp2_with fail
      refine (seq_In.calls _ _ _ false _ ?_).mono ?_
      · exact in_of (by first | (apply decide_eq_true; omega) | (apply decide_eq_false; omega))
      rintro e w' ⟨rfl, ⟨nd, rfl⟩⟩
      go_wp2_with fail
      refine (seq_In.calls _ _ _ false _ ?_).mono ?_
      · exact in_of (by first | (apply decide_eq_true; omega) | (apply decide_eq_false; omega))
      rintro e w' ⟨rfl, ⟨nd, rfl⟩⟩
      go_wp2_with fail
      refine (seq_In.calls _ _ _ false _ ?_).mono ?_
      · exact in_of (by first | (apply decide_eq_true; omega) | (apply decide_eq_false; omega))
      rintro e w' ⟨rfl, ⟨nd, rfl⟩⟩
      go_wp2_with fail
      refine (stevedorelaw03_alive.calls true _ alive_eq).mono ?_
      rintro e w' ⟨rfl, hb⟩
      go_wp2
      go_ret
      exact ⟨by simp, below_step (by repeat (first | exact Below.refl _ _ | apply pw_below_drewN)) hb⟩

theorem takes_none {a m b n : Int} {r : Bool} (hm : m < 0) (h : false = r) : seq_Takes.f a m b n = some r := by
  unfold seq_Takes.f; rw [if_pos hm, h]
theorem takes_bare {a m b n : Int} {r : Bool} (hm : m = 0) (hn : n = 0) (h : decide (a = b) = r) : seq_Takes.f a m b n = some r := by
  unfold seq_Takes.f; rw [if_neg (by omega), if_pos hm, if_pos hn, h]
theorem takes_no {a m b n : Int} {r : Bool} (hm : m = 0) (hn : ¬ n = 0) (h : decide ((a - b) % 4294967296 < n) = r) : seq_Takes.f a m b n = some r := by
  unfold seq_Takes.f; rw [if_neg (by omega), if_pos hm, if_neg hn, h]
theorem takes_some {a m b n : Int} {r : Bool} (hm : 0 < m) (h : decide ((a - b) % 4294967296 < n ∨ (a + m - 1 - b) % 4294967296 < n) = r) : seq_Takes.f a m b n = some r := by
  unfold seq_Takes.f; rw [if_neg (by omega), if_neg (by omega), ← h]; simp

set_option maxHeartbeats 8000000 in
set_option maxRecDepth 100000 in
theorem takes (a v m o : Int) (w : World) (ha : 0 ≤ a ∧ a ≤ 4294967295) (hv : 0 ≤ v ∧ v ≤ 65535) (hm : 0 ≤ m ∧ m ≤ 65535) (ho : -2147483648 ≤ o ∧ o ≤ 2147483647) :
    Calls Try.prog 6 #[.int .u32 a, .int .u16 v, .int .u16 m, .int .i32 o] w fun e w' => e = .returned (.bool true) ∧ Below w.heap.size w w' := by
  by_cases c0 : v = 0
  · subst c0
    clear hv
    by_cases c1 : m = 0
    · subst c1
      clear hm
      by_cases c2 : o = 0
      · subst c2
        clear ho
        go_enter Try.func6, Try.ntmps6
        go_wp2_with fail
        refine (seq_Takes.calls _ _ _ _ true _ ?_).mono ?_
        · exact takes_bare (by omega) (by omega) (by first | (apply decide_eq_true; omega) | (apply decide_eq_false; omega))
        rintro e w' ⟨rfl, hb1⟩
        go_wp2_with fail
        refine (stevedorelaw03_alive.calls true _ alive_eq).mono ?_
        rintro e w' ⟨rfl, hb⟩
        go_wp2
        go_ret
        exact ⟨by first | (simp; done) | (simp; omega) | (simp; unfold wrap32; omega), below_step (below_step (Below.refl _ _) hb1) hb⟩
      · have e2 : (o == 0) = false := beq_eq_false_iff_ne.2 c2
        go_enter Try.func6, Try.ntmps6
        go_wp2_with fail
        refine (seq_Takes.calls _ _ _ _ false _ ?_).mono ?_
        · exact takes_bare (by omega) (by omega) (by first | (apply decide_eq_true; omega) | (apply decide_eq_false; omega))
        rintro e w' ⟨rfl, hb1⟩
        go_wp2_with fail
        refine (stevedorelaw03_alive.calls true _ alive_eq).mono ?_
        rintro e w' ⟨rfl, hb⟩
        go_wp2
        go_ret
        exact ⟨by first | (simp; done) | (simp; omega) | (simp; unfold wrap32; omega), below_step (below_step (Below.refl _ _) hb1) hb⟩
    · have e1 : (m == 0) = false := beq_eq_false_iff_ne.2 c1
      go_enter Try.func6, Try.ntmps6
      go_wp2_with fail
      refine (seq_Takes.calls _ _ _ _ false _ ?_).mono ?_
      · exact takes_some (by omega) (by first | (apply decide_eq_true; omega) | (apply decide_eq_false; omega))
      rintro e w' ⟨rfl, hb1⟩
      go_wp2_with fail
      refine (stevedorelaw03_alive.calls true _ alive_eq).mono ?_
      rintro e w' ⟨rfl, hb⟩
      go_wp2
      go_ret
      exact ⟨by first | (simp; done) | (simp; omega) | (simp; unfold wrap32; omega), below_step (below_step (Below.refl _ _) hb1) hb⟩
  · have e0 : (v == 0) = false := beq_eq_false_iff_ne.2 c0
    by_cases c1 : m = 0
    · subst c1
      clear hm
      by_cases c2 : 0 ≤ o
      · by_cases c3 : o < v
        · skip
          go_enter Try.func6, Try.ntmps6
          go_wp2_with fail
          refine (seq_Takes.calls _ _ _ _ true _ ?_).mono ?_
          · exact takes_no (by omega) (by omega) (by first | (apply decide_eq_true; omega) | (apply decide_eq_false; omega))
          rintro e w' ⟨rfl, hb1⟩
          go_wp2_with fail
          refine (stevedorelaw03_alive.calls true _ alive_eq).mono ?_
          rintro e w' ⟨rfl, hb⟩
          go_wp2
          go_ret
          exact ⟨by first | (simp; done) | (simp; omega) | (simp; unfold wrap32; omega), below_step (below_step (Below.refl _ _) hb1) hb⟩
        · skip
          go_enter Try.func6, Try.ntmps6
          go_wp2_with fail
          refine (seq_Takes.calls _ _ _ _ false _ ?_).mono ?_
          · exact takes_no (by omega) (by omega) (by first | (apply decide_eq_true; omega) | (apply decide_eq_false; omega))
          rintro e w' ⟨rfl, hb1⟩
          go_wp2_with fail
          refine (stevedorelaw03_alive.calls true _ alive_eq).mono ?_
          rintro e w' ⟨rfl, hb⟩
          go_wp2
          go_ret
          exact ⟨by first | (simp; done) | (simp; omega) | (simp; unfold wrap32; omega), below_step (below_step (Below.refl _ _) hb1) hb⟩
      · skip
        go_enter Try.func6, Try.ntmps6
        go_wp2_with fail
        refine (seq_Takes.calls _ _ _ _ false _ ?_).mono ?_
        · exact takes_no (by omega) (by omega) (by first | (apply decide_eq_true; omega) | (apply decide_eq_false; omega))
        rintro e w' ⟨rfl, hb1⟩
        go_wp2_with fail
        refine (stevedorelaw03_alive.calls true _ alive_eq).mono ?_
        rintro e w' ⟨rfl, hb⟩
        go_wp2
        go_ret
        exact ⟨by first | (simp; done) | (simp; omega) | (simp; unfold wrap32; omega), below_step (below_step (Below.refl _ _) hb1) hb⟩
    · have e1 : (m == 0) = false := beq_eq_false_iff_ne.2 c1
      have p1 : 1 ≤ m := by omega
      clear c1
      by_cases c2 : 0 ≤ o
      · by_cases c3 : o < v
        · skip
          go_enter Try.func6, Try.ntmps6
          go_wp2_with fail
          refine (seq_Takes.calls _ _ _ _ true _ ?_).mono ?_
          · exact takes_some (by omega) (by first | (apply decide_eq_true; omega) | (apply decide_eq_false; omega))
          rintro e w' ⟨rfl, hb1⟩
          go_wp2_with fail
          refine (seq_Takes.calls _ _ _ _ false _ ?_).mono ?_
          · exact takes_none (by omega) rfl
          rintro e w' ⟨rfl, hb2⟩
          go_wp2_with fail
          refine (stevedorelaw03_alive.calls true _ alive_eq).mono ?_
          rintro e w' ⟨rfl, hb⟩
          go_wp2
          go_ret
          exact ⟨by first | (simp; done) | (simp; omega) | (simp; unfold wrap32; omega), below_step (below_step (below_step (Below.refl _ _) hb1) hb2) hb⟩
        · skip
          go_enter Try.func6, Try.ntmps6
          go_wp2_with fail
          refine (seq_Takes.calls _ _ _ _ false _ ?_).mono ?_
          · exact takes_some (by omega) (by first | (apply decide_eq_true; omega) | (apply decide_eq_false; omega))
          rintro e w' ⟨rfl, hb1⟩
          go_wp2_with fail
          refine (seq_Takes.calls _ _ _ _ false _ ?_).mono ?_
          · exact takes_none (by omega) rfl
          rintro e w' ⟨rfl, hb2⟩
          go_wp2_with fail
          refine (stevedorelaw03_alive.calls true _ alive_eq).mono ?_
          rintro e w' ⟨rfl, hb⟩
          go_wp2
          go_ret
          exact ⟨by first | (simp; done) | (simp; omega) | (simp; unfold wrap32; omega), below_step (below_step (below_step (Below.refl _ _) hb1) hb2) hb⟩
      · by_cases c3 : o + m - 1 < 0
        · skip
          go_enter Try.func6, Try.ntmps6
          go_wp2_with fail
          refine (seq_Takes.calls _ _ _ _ false _ ?_).mono ?_
          · exact takes_some (by omega) (by first | (apply decide_eq_true; omega) | (apply decide_eq_false; omega))
          rintro e w' ⟨rfl, hb1⟩
          go_wp2_with fail
          refine (seq_Takes.calls _ _ _ _ false _ ?_).mono ?_
          · exact takes_none (by omega) rfl
          rintro e w' ⟨rfl, hb2⟩
          go_wp2_with fail
          refine (stevedorelaw03_alive.calls true _ alive_eq).mono ?_
          rintro e w' ⟨rfl, hb⟩
          go_wp2
          go_ret
          exact ⟨by first | (simp; done) | (simp; omega) | (simp; unfold wrap32; omega), below_step (below_step (below_step (Below.refl _ _) hb1) hb2) hb⟩
        · by_cases c4 : o + m - 1 < v
          · skip
            go_enter Try.func6, Try.ntmps6
            go_wp2_with fail
            refine (seq_Takes.calls _ _ _ _ true _ ?_).mono ?_
            · exact takes_some (by omega) (by first | (apply decide_eq_true; omega) | (apply decide_eq_false; omega))
            rintro e w' ⟨rfl, hb1⟩
            go_wp2_with fail
            refine (seq_Takes.calls _ _ _ _ false _ ?_).mono ?_
            · exact takes_none (by omega) rfl
            rintro e w' ⟨rfl, hb2⟩
            go_wp2_with fail
            refine (stevedorelaw03_alive.calls true _ alive_eq).mono ?_
            rintro e w' ⟨rfl, hb⟩
            go_wp2
            go_ret
            exact ⟨by first | (simp; done) | (simp; omega) | (simp; unfold wrap32; omega), below_step (below_step (below_step (Below.refl _ _) hb1) hb2) hb⟩
          · skip
            go_enter Try.func6, Try.ntmps6
            go_wp2_with fail
            refine (seq_Takes.calls _ _ _ _ false _ ?_).mono ?_
            · exact takes_some (by omega) (by first | (apply decide_eq_true; omega) | (apply decide_eq_false; omega))
            rintro e w' ⟨rfl, hb1⟩
            go_wp2_with fail
            refine (seq_Takes.calls _ _ _ _ false _ ?_).mono ?_
            · exact takes_none (by omega) rfl
            rintro e w' ⟨rfl, hb2⟩
            go_wp2_with fail
            refine (stevedorelaw03_alive.calls true _ alive_eq).mono ?_
            rintro e w' ⟨rfl, hb⟩
            go_wp2
            go_ret
            exact ⟨by first | (simp; done) | (simp; omega) | (simp; unfold wrap32; omega), below_step (below_step (below_step (Below.refl _ _) hb1) hb2) hb⟩
end Go.Proofs.Ytjbkejfagcdkjaa.PSeqTells
