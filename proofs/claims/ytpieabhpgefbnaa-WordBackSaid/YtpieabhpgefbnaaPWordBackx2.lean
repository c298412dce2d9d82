-- Laid by a program of this session: the print tool's way, with this session's own walks of some functions laid in.
import Derived.Test.YtpieabhpgefbnaaPWordBackx0
import Derived.Test.YtpieabhpgefbnaaPWordBackx1
namespace Go.Proofs.Ytpieabhpgefbnaa.PWordBack
open Go.RowKit Go.Proofs.YtpieabhpgefbnaaW.PrintWords Go.Proofs.YtpieabhpgefbnaaW.PrintLast Go.Proofs.YtpieabhpgefbnaaW.PrintMore
attribute [local go_sem] Int.emod_add_emod Int.add_emod_emod Int.emod_sub_emod Int.sub_emod_emod max2_int min2_int max_two min_two max_three min_three max_four min_four   -- for this text's walks alone
set_option linter.unusedVariables false
set_option linter.unusedSimpArgs false

/-! ### word_Set: function 17 -/
def word_Set.f (k : Nat) (a0 : ByteArray) (a1 : Int) (a2 : ByteArray) : Option (ByteArray × Int) := (word_Text.f k a0 a1 (a2.size : Int)).bind fun bt111 => (if bt111.2 = 0 then (if 0 ≤ a1 then (if a1 ≤ (a0.size : Int) then (if (a0.extract 0 (a1 : Int).toNat).size + a2.size ≤ 9223372036854775807 then (if 0 ≤ (wrap64 (a1 + (a2.size : Int))) then (if (wrap64 (a1 + (a2.size : Int))) ≤ (a0.size : Int) then (if ((a0.extract 0 (a1 : Int).toNat) ++ a2).size + (a0.extract ((wrap64 (a1 + (a2.size : Int))) : Int).toNat a0.size).size ≤ 9223372036854775807 then (some (((a0.extract 0 (a1 : Int).toNat) ++ a2) ++ (a0.extract ((wrap64 (a1 + (a2.size : Int))) : Int).toNat a0.size), 0)) else (none)) else (none)) else (none)) else (none)) else (none)) else (none)) else (some ((⟨#[]⟩ : ByteArray), bt111.2)))
theorem word_Set.mono : ∀ a0 a1 a2 k, LeO (word_Set.f k a0 a1 a2) (word_Set.f (k + 1) a0 a1 a2) := by
  intro a0 a1 a2 k
  unfold word_Set.f
  repeat' first
      | (with_reducible exact word_Text.mono _ _ _ _)
      | (with_reducible exact LeO.refl _)
      | (with_reducible exact LeO.none _)
      | (with_reducible refine LeO.ite ?_ ?_)
      | (with_reducible refine LeO.bind ?_ (fun _ => ?_))
      | exact word_Text.mono _ _ _ _
      | exact LeO.none _
      | refine LeO.ite ?_ ?_
      | refine LeO.bind ?_ (fun _ => ?_)
set_option maxHeartbeats 8000000 in
set_option maxRecDepth 100000 in
theorem word_Set.calls (k : Nat) (a0 : ByteArray) (a1 : Int) (a2 : ByteArray) (r1 : ByteArray) (r2 : Int) (w : World) (h : word_Set.f k a0 a1 a2 = some (r1, r2)) :
    Calls Try.prog 17 #[.string a0, .int .i64 a1, .string a2] w fun e w' => e = .returned (.tuple #[.string r1, .int .i64 r2]) ∧ Drawn0 w w' := by
  have H : ((word_Text.f k a0 a1 (a2.size : Int)).bind fun bt111 => (if bt111.2 = 0 then (if 0 ≤ a1 then (if a1 ≤ (a0.size : Int) then (if (a0.extract 0 (a1 : Int).toNat).size + a2.size ≤ 9223372036854775807 then (if 0 ≤ (wrap64 (a1 + (a2.size : Int))) then (if (wrap64 (a1 + (a2.size : Int))) ≤ (a0.size : Int) then (if ((a0.extract 0 (a1 : Int).toNat) ++ a2).size + (a0.extract ((wrap64 (a1 + (a2.size : Int))) : Int).toNat a0.size).size ≤ 9223372036854775807 then (some (((a0.extract 0 (a1 : Int).toNat) ++ a2) ++ (a0.extract ((wrap64 (a1 + (a2.size : Int))) : Int).toNat a0.size), 0)) else (none)) else (none)) else (none)) else (none)) else (none)) else (none)) else (some ((⟨#[]⟩ : ByteArray), bt111.2)))) = some (r1, r2) := h
  clear h
  replace H := Option.bind_eq_some_iff.mp H
  obtain ⟨⟨t111, t112⟩, A40, H⟩ := H
  replace H : (if t112 = 0 then (if 0 ≤ a1 then (if a1 ≤ (a0.size : Int) then (if (a0.extract 0 (a1 : Int).toNat).size + a2.size ≤ 9223372036854775807 then (if 0 ≤ (wrap64 (a1 + (a2.size : Int))) then (if (wrap64 (a1 + (a2.size : Int))) ≤ (a0.size : Int) then (if ((a0.extract 0 (a1 : Int).toNat) ++ a2).size + (a0.extract ((wrap64 (a1 + (a2.size : Int))) : Int).toNat a0.size).size ≤ 9223372036854775807 then (some (((a0.extract 0 (a1 : Int).toNat) ++ a2) ++ (a0.extract ((wrap64 (a1 + (a2.size : Int))) : Int).toNat a0.size), 0)) else (none)) else (none)) else (none)) else (none)) else (none)) else (none)) else (some ((⟨#[]⟩ : ByteArray), t112))) = some (r1, r2) := H
  have A4 := Aside0.mk A40
  clear A40
  by_cases c5 : t112 = 0
  · rw [if_pos c5] at H
    have c5b0 : (t112 == 0) = true := beq_iff_eq.mpr c5
    have c5b1 : (t112 != 0) = false := bne_eq_false_iff_eq.mpr c5
    clear c5
    by_cases c6 : 0 ≤ a1
    · rw [if_pos c6] at H
      have c6b0 := eq_true c6
      have c6b1 : decide (0 ≤ a1) = true := decide_eq_true c6
      clear c6
      by_cases c7 : a1 ≤ (a0.size : Int)
      · rw [if_pos c7] at H
        have c7b0 := eq_true c7
        have c7b1 : decide (a1 ≤ (a0.size : Int)) = true := decide_eq_true c7
        clear c7
        by_cases c8 : (a0.extract 0 (a1 : Int).toNat).size + a2.size ≤ 9223372036854775807
        · rw [if_pos c8] at H
          have c8b0 := eq_true c8
          have c8b1 : decide ((a0.extract 0 (a1 : Int).toNat).size + a2.size ≤ 9223372036854775807) = true := decide_eq_true c8
          try have c8b2 : (9223372036854775807 < (a0.extract 0 (a1 : Int).toNat).size + a2.size) = False := eq_false (Nat.not_lt.2 c8)
          obtain ⟨ji9, hji9⟩ : ∃ j_ : Int, (wrap64 (a1 + (a2.size : Int))) = j_ := ⟨_, rfl⟩
          replace H : (if 0 ≤ (ji9) then (if (ji9) ≤ (a0.size : Int) then (if ((a0.extract 0 (a1 : Int).toNat) ++ a2).size + (a0.extract ((ji9) : Int).toNat a0.size).size ≤ 9223372036854775807 then (some (((a0.extract 0 (a1 : Int).toNat) ++ a2) ++ (a0.extract ((ji9) : Int).toNat a0.size), 0)) else (none)) else (none)) else (none)) = some (r1, r2) := by first | (rw [hji9] at H; exact H) | (simp only [hji9] at H ⊢; exact H)
          (try rw [hji9] at A4)
          have hji9w : (IntKind.i64.wrap (a1 + (a2.size : Int))) = ji9 := (i64_w _).trans hji9
          by_cases c10 : 0 ≤ (ji9)
          · rw [if_pos c10] at H
            have c10b0 := eq_true c10
            have c10b1 : decide (0 ≤ (ji9)) = true := decide_eq_true c10
            clear c10
            by_cases c11 : (ji9) ≤ (a0.size : Int)
            · rw [if_pos c11] at H
              have c11b0 := eq_true c11
              have c11b1 : decide ((ji9) ≤ (a0.size : Int)) = true := decide_eq_true c11
              clear c11
              by_cases c12 : ((a0.extract 0 (a1 : Int).toNat) ++ a2).size + (a0.extract ((ji9) : Int).toNat a0.size).size ≤ 9223372036854775807
              · rw [if_pos c12] at H
                have c12b0 := eq_true c12
                have c12b1 : decide (((a0.extract 0 (a1 : Int).toNat) ++ a2).size + (a0.extract ((ji9) : Int).toNat a0.size).size ≤ 9223372036854775807) = true := decide_eq_true c12
                try have c12b2 : (9223372036854775807 < ((a0.extract 0 (a1 : Int).toNat) ++ a2).size + (a0.extract ((ji9) : Int).toNat a0.size).size) = False := eq_false (Nat.not_lt.2 c12)
                simp only [Option.some.injEq, Prod.mk.injEq] at H
                obtain ⟨rfl, rfl⟩ := H
                go_enter Try.func17, Try.ntmps17
                go_wp2_with (first | (go_at_call 12; (with_reducible refine (word_Text.calls k a0 a1 (a2.size : Int) t111 t112 _ A4.out).mono ?_); rintro e w' ⟨rfl, ⟨nd, rfl⟩⟩; (try first | exact ⟨rfl, _, World.drewN_drewN _ _ _⟩ | exact ⟨rfl, _, Eq.trans (World.drewN_drewN _ _ _) (congrArg (World.drewN _) (Nat.add_assoc _ _ _))⟩)))
                repeat (go_quiet (first | (go_at_call 12; (with_reducible refine (word_Text.calls k a0 a1 (a2.size : Int) t111 t112 _ A4.out).mono ?_); rintro e w' ⟨rfl, ⟨nd, rfl⟩⟩; (try first | exact ⟨rfl, _, World.drewN_drewN _ _ _⟩ | exact ⟨rfl, _, Eq.trans (World.drewN_drewN _ _ _) (congrArg (World.drewN _) (Nat.add_assoc _ _ _))⟩))); try go_wp2_with (first | (go_at_call 12; (with_reducible refine (word_Text.calls k a0 a1 (a2.size : Int) t111 t112 _ A4.out).mono ?_); rintro e w' ⟨rfl, ⟨nd, rfl⟩⟩; (try first | exact ⟨rfl, _, World.drewN_drewN _ _ _⟩ | exact ⟨rfl, _, Eq.trans (World.drewN_drewN _ _ _) (congrArg (World.drewN _) (Nat.add_assoc _ _ _))⟩))))
                go_ret2
                exact ⟨by first | rfl | (simp; done) | (simp only [← hji9] <;> (first | rfl | simp)) | (simp [*]; done), by repeat (first | exact Drawn0.refl _ | apply Drawn0.step)⟩
              · rw [if_neg c12] at H
                exact absurd H (by simp)
            · rw [if_neg c11] at H
              exact absurd H (by simp)
          · rw [if_neg c10] at H
            exact absurd H (by simp)
        · rw [if_neg c8] at H
          exact absurd H (by simp)
      · rw [if_neg c7] at H
        exact absurd H (by simp)
    · rw [if_neg c6] at H
      exact absurd H (by simp)
  · rw [if_neg c5] at H
    have c5b0 : (t112 == 0) = false := beq_eq_false_iff_ne.mpr c5
    have c5b1 : (t112 != 0) = true := bne_iff_ne.mpr c5
    simp only [Option.some.injEq, Prod.mk.injEq] at H
    obtain ⟨rfl, rfl⟩ := H
    go_enter Try.func17, Try.ntmps17
    go_wp2_with (first | (go_at_call 12; (with_reducible refine (word_Text.calls k a0 a1 (a2.size : Int) t111 t112 _ A4.out).mono ?_); rintro e w' ⟨rfl, ⟨nd, rfl⟩⟩; (try first | exact ⟨rfl, _, World.drewN_drewN _ _ _⟩ | exact ⟨rfl, _, Eq.trans (World.drewN_drewN _ _ _) (congrArg (World.drewN _) (Nat.add_assoc _ _ _))⟩)))
    repeat (go_quiet (first | (go_at_call 12; (with_reducible refine (word_Text.calls k a0 a1 (a2.size : Int) t111 t112 _ A4.out).mono ?_); rintro e w' ⟨rfl, ⟨nd, rfl⟩⟩; (try first | exact ⟨rfl, _, World.drewN_drewN _ _ _⟩ | exact ⟨rfl, _, Eq.trans (World.drewN_drewN _ _ _) (congrArg (World.drewN _) (Nat.add_assoc _ _ _))⟩))); try go_wp2_with (first | (go_at_call 12; (with_reducible refine (word_Text.calls k a0 a1 (a2.size : Int) t111 t112 _ A4.out).mono ?_); rintro e w' ⟨rfl, ⟨nd, rfl⟩⟩; (try first | exact ⟨rfl, _, World.drewN_drewN _ _ _⟩ | exact ⟨rfl, _, Eq.trans (World.drewN_drewN _ _ _) (congrArg (World.drewN _) (Nat.add_assoc _ _ _))⟩))))
    go_ret2
    exact ⟨by first | rfl | (simp; done) | (simp [*]; done), by repeat (first | exact Drawn0.refl _ | apply Drawn0.step)⟩

/-! ### stevedorelaw01_alive: function 6 -/
-- HAND making needs=stevedore/word.Of needs=stevedore/word.Two needs=stevedore/word.Set needs=stevedore/word.Text needs=stevedore/word.Rest needs=stevedore/word.Byte needs=stevedore/word.Four needs=stevedore/word.Six
def stevedorelaw01_alive.f : Option Bool := some true
set_option maxHeartbeats 4000000 in
set_option maxRecDepth 100000 in
theorem stevedorelaw01_alive.calls (r : Bool) (w : World) (h : stevedorelaw01_alive.f = some r) :
    Calls Try.prog 6 #[] w fun e w' => e = .returned (.bool r) ∧ Below w.heap.size w w' := by
  obtain rfl : true = r := Option.some.inj h
  clear h
  have HB := Aside0.mk (Below.refl w.heap.size w)
  go_enter Try.func6, Try.ntmps6
  go_wp2_with fail
  refine (word_Of.calls 258 2 (⟨#[1, 2]⟩ : ByteArray) _ (by decide +kernel)).mono ?_
  rintro e w' ⟨rfl, hb⟩
  have HB2 := Aside0.mk (below_step (by repeat (first | exact HB.out | apply pw_below_drewN)) hb)
  clear hb
  clear HB
  have HB := HB2
  clear HB2
  go_wp2_with fail
  refine (word_Two.calls 9 (⟨#[1, 2]⟩ : ByteArray) 0 258 0 _ (by decide +kernel)).mono ?_
  rintro e w' ⟨rfl, hb⟩
  have HB2 := Aside0.mk (below_step (by repeat (first | exact HB.out | apply pw_below_drewN)) hb)
  clear hb
  clear HB
  have HB := HB2
  clear HB2
  go_wp2_with fail
  refine (word_Two.calls 9 (⟨#[1, 2]⟩ : ByteArray) 1 0 10 _ (by decide +kernel)).mono ?_
  rintro e w' ⟨rfl, hb⟩
  have HB2 := Aside0.mk (below_step (by repeat (first | exact HB.out | apply pw_below_drewN)) hb)
  clear hb
  clear HB
  have HB := HB2
  clear HB2
  go_wp2_with fail
  refine (word_Set.calls 9 (⟨#[97, 98, 99, 100]⟩ : ByteArray) 1 (⟨#[120, 121]⟩ : ByteArray) (⟨#[97, 120, 121, 100]⟩ : ByteArray) 0 _ (by decide +kernel)).mono ?_
  rintro e w' ⟨rfl, ⟨nd, rfl⟩⟩
  go_wp2_with fail
  refine (word_Text.calls 9 (⟨#[97, 98, 99]⟩ : ByteArray) 1 2 (⟨#[98, 99]⟩ : ByteArray) 0 _ (by decide +kernel)).mono ?_
  rintro e w' ⟨rfl, ⟨nd, rfl⟩⟩
  go_wp2_with fail
  refine (word_Rest.calls 9 (⟨#[97, 98, 99]⟩ : ByteArray) 3 (⟨#[]⟩ : ByteArray) 0 _ (by decide +kernel)).mono ?_
  rintro e w' ⟨rfl, ⟨nd, rfl⟩⟩
  go_wp2_with fail
  refine (word_Rest.calls 9 (⟨#[97, 98, 99]⟩ : ByteArray) 4 (⟨#[]⟩ : ByteArray) 10 _ (by decide +kernel)).mono ?_
  rintro e w' ⟨rfl, ⟨nd, rfl⟩⟩
  go_wp2_with fail
  refine (word_Byte.calls 9 (⟨#[97]⟩ : ByteArray) 0 97 0 _ (by decide +kernel)).mono ?_
  rintro e w' ⟨rfl, hb⟩
  have HB2 := Aside0.mk (below_step (by repeat (first | exact HB.out | apply pw_below_drewN)) hb)
  clear hb
  clear HB
  have HB := HB2
  clear HB2
  go_wp2_with fail
  refine (word_Four.calls 9 (⟨#[0, 1, 2, 3]⟩ : ByteArray) 0 66051 0 _ (by decide +kernel)).mono ?_
  rintro e w' ⟨rfl, hb⟩
  have HB2 := Aside0.mk (below_step (by repeat (first | exact HB.out | apply pw_below_drewN)) hb)
  clear hb
  clear HB
  have HB := HB2
  clear HB2
  go_wp2_with fail
  refine (word_Six.calls 9 (⟨#[0, 0, 0, 0, 1, 0]⟩ : ByteArray) 0 256 0 _ (by decide +kernel)).mono ?_
  rintro e w' ⟨rfl, hb⟩
  have HB2 := Aside0.mk (below_step (by repeat (first | exact HB.out | apply pw_below_drewN)) hb)
  clear hb
  clear HB
  have HB := HB2
  clear HB2
  go_wp2
  go_ret
  exact ⟨by first | rfl | (simp; done), by repeat (first | exact HB.out | apply pw_below_drewN)⟩

/-! ### stevedorelaw01_WordBack: function 4 -/
mutual
def stevedorelaw01_WordBack.l0 : Nat → ByteArray → Int → Int → Int → Option (Bool)
  | 0, _, _, _, _ => none
  | k + 1, x0, x1, x2, x7 => if x7 ≤ 6 then ((word_Of.f x2 x7).bind fun t115 => ((word_Set.f k x0 x1 t115).bind fun bt116 => (if x1 ≥ 0 then (if x1 ≤ (x0.size : Int) then (stevedorelaw01_WordBack.j1 k x0 x1 x2 x7 t115 bt116.1 bt116.2 ((bt116.2 == 0) != (decide ((wrap64 ((x0.size : Int) - x1)) ≥ x7)))) else (stevedorelaw01_WordBack.j1 k x0 x1 x2 x7 t115 bt116.1 bt116.2 ((bt116.2 == 0) != false))) else (stevedorelaw01_WordBack.j1 k x0 x1 x2 x7 t115 bt116.1 bt116.2 ((bt116.2 == 0) != false))))) else ((stevedorelaw01_alive.f).bind fun t114 => (some t114))
def stevedorelaw01_WordBack.j1 : Nat → ByteArray → Int → Int → Int → ByteArray → ByteArray → Int → Bool → Option (Bool)
  | 0, _, _, _, _, _, _, _, _ => none
  | k + 1, x0, x1, x2, x7, x8, x9, x10, x58 => if x58 = true then (some false) else (if x10 = 0 then ((word_Text.f k x9 x1 x7).bind fun bt118 => (if bt118.1.toList = x8.toList then (if bt118.2 = 0 then (if (x9.size : Int) = (x0.size : Int) then (if 0 ≤ x1 then (if x1 ≤ (x9.size : Int) then (if x1 ≤ (x0.size : Int) then (if (x9.extract 0 (x1 : Int).toNat).toList = (x0.extract 0 (x1 : Int).toNat).toList then (if 0 ≤ (wrap64 (x1 + x7)) then (if (wrap64 (x1 + x7)) ≤ (x9.size : Int) then (if (wrap64 (x1 + x7)) ≤ (x0.size : Int) then (stevedorelaw01_WordBack.j2 k x0 x1 x2 x7 x9 ((x9.extract ((wrap64 (x1 + x7)) : Int).toNat x9.size).toList != (x0.extract ((wrap64 (x1 + x7)) : Int).toNat x0.size).toList)) else (none)) else (none)) else (none)) else (stevedorelaw01_WordBack.j2 k x0 x1 x2 x7 x9 true)) else (none)) else (none)) else (none)) else (stevedorelaw01_WordBack.j2 k x0 x1 x2 x7 x9 true)) else (stevedorelaw01_WordBack.j2 k x0 x1 x2 x7 x9 true)) else (stevedorelaw01_WordBack.j2 k x0 x1 x2 x7 x9 true))) else (stevedorelaw01_WordBack.l0 k x0 x1 x2 (wrap64 (x7 + 1))))
def stevedorelaw01_WordBack.j2 : Nat → ByteArray → Int → Int → Int → ByteArray → Bool → Option (Bool)
  | 0, _, _, _, _, _, _ => none
  | k + 1, x0, x1, x2, x7, x9, x103 => if x103 = true then (some false) else (if x7 = 1 then ((word_Byte.f k x9 x1).bind fun bt120 => (if 0 ≤ (IntKind.u64.wrap (wrap64 (8 * x7))) then (if (IntKind.u64.wrap (bt120.1)) = (Go.bits .and .u64 x2 (IntKind.u64.wrap ((shl .u64 1 (IntKind.u64.wrap (wrap64 (8 * x7)))) - 1))) then (stevedorelaw01_WordBack.l0 k x0 x1 x2 (wrap64 (x7 + 1))) else (some false)) else (none))) else (if x7 = 2 then ((word_Two.f k x9 x1).bind fun bt122 => (if 0 ≤ (IntKind.u64.wrap (wrap64 (8 * x7))) then (if (IntKind.u64.wrap (bt122.1)) = (Go.bits .and .u64 x2 (IntKind.u64.wrap ((shl .u64 1 (IntKind.u64.wrap (wrap64 (8 * x7)))) - 1))) then (stevedorelaw01_WordBack.l0 k x0 x1 x2 (wrap64 (x7 + 1))) else (some false)) else (none))) else (if x7 = 4 then ((word_Four.f k x9 x1).bind fun bt124 => (if 0 ≤ (IntKind.u64.wrap (wrap64 (8 * x7))) then (if (IntKind.u64.wrap (bt124.1)) = (Go.bits .and .u64 x2 (IntKind.u64.wrap ((shl .u64 1 (IntKind.u64.wrap (wrap64 (8 * x7)))) - 1))) then (stevedorelaw01_WordBack.l0 k x0 x1 x2 (wrap64 (x7 + 1))) else (some false)) else (none))) else (if x7 = 6 then ((word_Six.f k x9 x1).bind fun bt126 => (if 0 ≤ (IntKind.u64.wrap (wrap64 (8 * x7))) then (if bt126.1 = (Go.bits .and .u64 x2 (IntKind.u64.wrap ((shl .u64 1 (IntKind.u64.wrap (wrap64 (8 * x7)))) - 1))) then (stevedorelaw01_WordBack.l0 k x0 x1 x2 (wrap64 (x7 + 1))) else (some false)) else (none))) else (stevedorelaw01_WordBack.l0 k x0 x1 x2 (wrap64 (x7 + 1)))))))
end
def stevedorelaw01_WordBack.f (k : Nat) (a0 : ByteArray) (a1 : Int) (a2 : Int) : Option (Bool) := if (a0.size : Int) > 4096 then ((stevedorelaw01_alive.f).bind fun t113 => (some t113)) else (stevedorelaw01_WordBack.l0 k a0 a1 a2 1)
theorem stevedorelaw01_WordBack.mono_l : ∀ k, (∀ y0 y1 y2 y3, LeO (stevedorelaw01_WordBack.l0 k y0 y1 y2 y3) (stevedorelaw01_WordBack.l0 (k + 1) y0 y1 y2 y3)) ∧ (∀ y0 y1 y2 y3 y4 y5 y6 y7, LeO (stevedorelaw01_WordBack.j1 k y0 y1 y2 y3 y4 y5 y6 y7) (stevedorelaw01_WordBack.j1 (k + 1) y0 y1 y2 y3 y4 y5 y6 y7)) ∧ (∀ y0 y1 y2 y3 y4 y5, LeO (stevedorelaw01_WordBack.j2 k y0 y1 y2 y3 y4 y5) (stevedorelaw01_WordBack.j2 (k + 1) y0 y1 y2 y3 y4 y5))
  | 0 => ⟨fun _ _ _ _ r h => by simp [stevedorelaw01_WordBack.l0] at h, fun _ _ _ _ _ _ _ _ r h => by simp [stevedorelaw01_WordBack.j1] at h, fun _ _ _ _ _ _ r h => by simp [stevedorelaw01_WordBack.j2] at h⟩
  | k + 1 => by
    obtain ⟨ih0, ih1, ih2⟩ := stevedorelaw01_WordBack.mono_l k
    refine ⟨?_, ?_, ?_⟩
    · intro y0 y1 y2 y3
      unfold stevedorelaw01_WordBack.l0
      repeat' first
      | (with_reducible exact ih0 _ _ _ _)
      | (with_reducible exact ih1 _ _ _ _ _ _ _ _)
      | (with_reducible exact ih2 _ _ _ _ _ _)
      | (with_reducible exact word_Byte.mono _ _ _)
      | (with_reducible exact word_Four.mono _ _ _)
      | (with_reducible exact word_Set.mono _ _ _ _)
      | (with_reducible exact word_Six.mono _ _ _)
      | (with_reducible exact word_Text.mono _ _ _ _)
      | (with_reducible exact word_Two.mono _ _ _)
      | (with_reducible exact LeO.refl _)
      | (with_reducible exact LeO.none _)
      | (with_reducible refine LeO.ite ?_ ?_)
      | (with_reducible refine LeO.bind ?_ (fun _ => ?_))
      | exact ih0 _ _ _ _
      | exact ih1 _ _ _ _ _ _ _ _
      | exact ih2 _ _ _ _ _ _
      | exact word_Byte.mono _ _ _
      | exact word_Four.mono _ _ _
      | exact word_Set.mono _ _ _ _
      | exact word_Six.mono _ _ _
      | exact word_Text.mono _ _ _ _
      | exact word_Two.mono _ _ _
      | exact LeO.none _
      | refine LeO.ite ?_ ?_
      | refine LeO.bind ?_ (fun _ => ?_)
    · intro y0 y1 y2 y3 y4 y5 y6 y7
      unfold stevedorelaw01_WordBack.j1
      repeat' first
      | (with_reducible exact ih0 _ _ _ _)
      | (with_reducible exact ih1 _ _ _ _ _ _ _ _)
      | (with_reducible exact ih2 _ _ _ _ _ _)
      | (with_reducible exact word_Byte.mono _ _ _)
      | (with_reducible exact word_Four.mono _ _ _)
      | (with_reducible exact word_Set.mono _ _ _ _)
      | (with_reducible exact word_Six.mono _ _ _)
      | (with_reducible exact word_Text.mono _ _ _ _)
      | (with_reducible exact word_Two.mono _ _ _)
      | (with_reducible exact LeO.refl _)
      | (with_reducible exact LeO.none _)
      | (with_reducible refine LeO.ite ?_ ?_)
      | (with_reducible refine LeO.bind ?_ (fun _ => ?_))
      | exact ih0 _ _ _ _
      | exact ih1 _ _ _ _ _ _ _ _
      | exact ih2 _ _ _ _ _ _
      | exact word_Byte.mono _ _ _
      | exact word_Four.mono _ _ _
      | exact word_Set.mono _ _ _ _
      | exact word_Six.mono _ _ _
      | exact word_Text.mono _ _ _ _
      | exact word_Two.mono _ _ _
      | exact LeO.none _
      | refine LeO.ite ?_ ?_
      | refine LeO.bind ?_ (fun _ => ?_)
    · intro y0 y1 y2 y3 y4 y5
      unfold stevedorelaw01_WordBack.j2
      repeat' first
      | (with_reducible exact ih0 _ _ _ _)
      | (with_reducible exact ih1 _ _ _ _ _ _ _ _)
      | (with_reducible exact ih2 _ _ _ _ _ _)
      | (with_reducible exact word_Byte.mono _ _ _)
      | (with_reducible exact word_Four.mono _ _ _)
      | (with_reducible exact word_Set.mono _ _ _ _)
      | (with_reducible exact word_Six.mono _ _ _)
      | (with_reducible exact word_Text.mono _ _ _ _)
      | (with_reducible exact word_Two.mono _ _ _)
      | (with_reducible exact LeO.refl _)
      | (with_reducible exact LeO.none _)
      | (with_reducible refine LeO.ite ?_ ?_)
      | (with_reducible refine LeO.bind ?_ (fun _ => ?_))
      | exact ih0 _ _ _ _
      | exact ih1 _ _ _ _ _ _ _ _
      | exact ih2 _ _ _ _ _ _
      | exact word_Byte.mono _ _ _
      | exact word_Four.mono _ _ _
      | exact word_Set.mono _ _ _ _
      | exact word_Six.mono _ _ _
      | exact word_Text.mono _ _ _ _
      | exact word_Two.mono _ _ _
      | exact LeO.none _
      | refine LeO.ite ?_ ?_
      | refine LeO.bind ?_ (fun _ => ?_)
theorem stevedorelaw01_WordBack.mono : ∀ a0 a1 a2 k, LeO (stevedorelaw01_WordBack.f k a0 a1 a2) (stevedorelaw01_WordBack.f (k + 1) a0 a1 a2) := by
  intro a0 a1 a2 k
  obtain ⟨ih0, ih1, ih2⟩ := stevedorelaw01_WordBack.mono_l k
  unfold stevedorelaw01_WordBack.f
  repeat' first
      | (with_reducible exact ih0 _ _ _ _)
      | (with_reducible exact ih1 _ _ _ _ _ _ _ _)
      | (with_reducible exact ih2 _ _ _ _ _ _)
      | (with_reducible exact word_Byte.mono _ _ _)
      | (with_reducible exact word_Four.mono _ _ _)
      | (with_reducible exact word_Set.mono _ _ _ _)
      | (with_reducible exact word_Six.mono _ _ _)
      | (with_reducible exact word_Text.mono _ _ _ _)
      | (with_reducible exact word_Two.mono _ _ _)
      | (with_reducible exact LeO.refl _)
      | (with_reducible exact LeO.none _)
      | (with_reducible refine LeO.ite ?_ ?_)
      | (with_reducible refine LeO.bind ?_ (fun _ => ?_))
      | exact ih0 _ _ _ _
      | exact ih1 _ _ _ _ _ _ _ _
      | exact ih2 _ _ _ _ _ _
      | exact word_Byte.mono _ _ _
      | exact word_Four.mono _ _ _
      | exact word_Set.mono _ _ _ _
      | exact word_Six.mono _ _ _
      | exact word_Text.mono _ _ _ _
      | exact word_Two.mono _ _ _
      | exact LeO.none _
      | refine LeO.ite ?_ ?_
      | refine LeO.bind ?_ (fun _ => ?_)
set_option maxHeartbeats 8000000 in
set_option maxRecDepth 100000 in
theorem stevedorelaw01_WordBack.calls (k : Nat) (a0 : ByteArray) (a1 : Int) (a2 : Int) (r : Bool) (w : World) (h : stevedorelaw01_WordBack.f k a0 a1 a2 = some r) :
    Calls Try.prog 4 #[.string a0, .int .i64 a1, .int .u64 a2] w fun e w' => e = .returned (.bool r) ∧ Below w.heap.size w w' := by
  have HB := Aside0.mk (Below.refl w.heap.size w)
  have H : (if (a0.size : Int) > 4096 then ((stevedorelaw01_alive.f).bind fun t113 => (some t113)) else (stevedorelaw01_WordBack.l0 k a0 a1 a2 1)) = some r := h
  clear h
  by_cases c4 : (a0.size : Int) > 4096
  · rw [if_pos c4] at H
    have c4b0 : decide (4096 < (a0.size : Int)) = true := decide_eq_true c4
    have c4b1 : decide (4096 < a0.size) = true := decide_eq_true (by omega)
    clear c4
    replace H := Option.bind_eq_some_iff.mp H
    obtain ⟨t113, A50, H⟩ := H
    replace H : (some t113) = some r := H
    have A5 := Aside0.mk A50
    clear A50
    obtain rfl := Option.some.inj H
    go_enter Try.func4, Try.ntmps4
    go_wp2_with (first | (go_at_call 6; (with_reducible refine (stevedorelaw01_alive.calls  t113 _ A5.out).mono ?_); rintro e w6 ⟨rfl, hb⟩; have n0_ := Aside0.mk (below_step (by repeat (first | (with_reducible first | exact HB.out | apply below_alloc | apply pw_below_drewN | apply below_drew1) | exact HB.out)) hb); clear HB; have HB := n0_; clear n0_; (try clear hb); (try clear hb2); (try clear hk); (try clear hi)))
    repeat (go_quiet (first | (go_at_call 6; (with_reducible refine (stevedorelaw01_alive.calls  t113 _ A5.out).mono ?_); rintro e w6 ⟨rfl, hb⟩; have n0_ := Aside0.mk (below_step (by repeat (first | (with_reducible first | exact HB.out | apply below_alloc | apply pw_below_drewN | apply below_drew1) | exact HB.out)) hb); clear HB; have HB := n0_; clear n0_; (try clear hb); (try clear hb2); (try clear hk); (try clear hi))); try go_wp2_with (first | (go_at_call 6; (with_reducible refine (stevedorelaw01_alive.calls  t113 _ A5.out).mono ?_); rintro e w6 ⟨rfl, hb⟩; have n0_ := Aside0.mk (below_step (by repeat (first | (with_reducible first | exact HB.out | apply below_alloc | apply pw_below_drewN | apply below_drew1) | exact HB.out)) hb); clear HB; have HB := n0_; clear n0_; (try clear hb); (try clear hb2); (try clear hk); (try clear hi))))
    go_ret
    exact ⟨by first | rfl | (simp [errW_none, errW_some] <;> rfl) | (simp [*, errW_none, errW_some] <;> rfl), by repeat (first | (with_reducible first | exact HB.out | apply below_alloc | apply pw_below_drewN | apply below_drew1) | exact HB.out)⟩
  · rw [if_neg c4] at H
    have c4b0 : decide (4096 < (a0.size : Int)) = false := decide_eq_false c4
    have c4b1 : decide (4096 < a0.size) = false := decide_eq_false (by omega)
    clear c4
    have H' := Aside0.mk H
    clear H
    go_enter Try.func4, Try.ntmps4
    go_wp2
    repeat (go_quiet (fail); try go_wp2)
    go_loopg [7] k (fun kq v7 w' => ∃ (x7_1 : Int), v7 = .int .i64 x7_1 ∧ Aside0 (stevedorelaw01_WordBack.l0 kq a0 a1 a2 x7_1 = some r) ∧ Aside0 (kq ≤ k) ∧ Aside0 (Below w.heap.size w w'))
    case atStart => exact ⟨(1), (by first | rfl | (simp; done) | (simp [*]; done)), H', ⟨Nat.le_refl _⟩, ⟨by repeat (first | (with_reducible first | exact HB.out | apply below_alloc | apply pw_below_drewN | apply below_drew1) | exact HB.out)⟩⟩
    case round =>
      clear H'
      try clear p2
      try clear c4
      try clear c4b0
      try clear c4b1
      obtain ⟨x7_1, rfl, HA, HK1, HB⟩ := hrel
      cases gk with
      | zero => exact absurd HA.out (by simp [stevedorelaw01_WordBack.l0])
      | succ k1 =>
        have H := HA.out
        clear HA
        simp only [stevedorelaw01_WordBack.l0] at H
        by_cases c7 : x7_1 ≤ 6
        · rw [if_pos c7] at H
          have c7b0 : decide (x7_1 ≤ 6) = true := decide_eq_true c7
          clear c7
          replace H := Option.bind_eq_some_iff.mp H
          obtain ⟨t115, A80, H⟩ := H
          replace H : ((word_Set.f k1 a0 a1 t115).bind fun bt116 => (if a1 ≥ 0 then (if a1 ≤ (a0.size : Int) then (stevedorelaw01_WordBack.j1 k1 a0 a1 a2 x7_1 t115 bt116.1 bt116.2 ((bt116.2 == 0) != (decide ((wrap64 ((a0.size : Int) - a1)) ≥ x7_1)))) else (stevedorelaw01_WordBack.j1 k1 a0 a1 a2 x7_1 t115 bt116.1 bt116.2 ((bt116.2 == 0) != false))) else (stevedorelaw01_WordBack.j1 k1 a0 a1 a2 x7_1 t115 bt116.1 bt116.2 ((bt116.2 == 0) != false)))) = some r := H
          have A8 := Aside0.mk A80
          clear A80
          replace H := Option.bind_eq_some_iff.mp H
          obtain ⟨⟨t116, t117⟩, A90, H⟩ := H
          replace H : (if a1 ≥ 0 then (if a1 ≤ (a0.size : Int) then (stevedorelaw01_WordBack.j1 k1 a0 a1 a2 x7_1 t115 t116 t117 ((t117 == 0) != (decide ((wrap64 ((a0.size : Int) - a1)) ≥ x7_1)))) else (stevedorelaw01_WordBack.j1 k1 a0 a1 a2 x7_1 t115 t116 t117 ((t117 == 0) != false))) else (stevedorelaw01_WordBack.j1 k1 a0 a1 a2 x7_1 t115 t116 t117 ((t117 == 0) != false))) = some r := H
          have A9 := Aside0.mk A90
          clear A90
          have HC10 := Aside0.mk H
          clear H
          go_upto_region 8 with (first | (go_at_call 16; (with_reducible refine (word_Of.calls a2 x7_1 t115 _ A8.out).mono ?_); rintro e w11 ⟨rfl, hb⟩; have n0_ := Aside0.mk (below_step (by repeat (first | (with_reducible first | exact HB.out | apply below_alloc | apply pw_below_drewN | apply below_drew1) | exact HB.out)) hb); clear HB; have HB := n0_; clear n0_; (try clear hb); (try clear hb2); (try clear hk); (try clear hi)) | (go_at_call 17; (with_reducible refine (word_Set.calls k1 a0 a1 t115 t116 t117 _ A9.out).mono ?_); rintro e w' ⟨rfl, ⟨nd, rfl⟩⟩; (try first | exact ⟨rfl, _, World.drewN_drewN _ _ _⟩ | exact ⟨rfl, _, Eq.trans (World.drewN_drewN _ _ _) (congrArg (World.drewN _) (Nat.add_assoc _ _ _))⟩)))
          repeat (go_quiet (first | (go_at_call 16; (with_reducible refine (word_Of.calls a2 x7_1 t115 _ A8.out).mono ?_); rintro e w11 ⟨rfl, hb⟩; have n0_ := Aside0.mk (below_step (by repeat (first | (with_reducible first | exact HB.out | apply below_alloc | apply pw_below_drewN | apply below_drew1) | exact HB.out)) hb); clear HB; have HB := n0_; clear n0_; (try clear hb); (try clear hb2); (try clear hk); (try clear hi)) | (go_at_call 17; (with_reducible refine (word_Set.calls k1 a0 a1 t115 t116 t117 _ A9.out).mono ?_); rintro e w' ⟨rfl, ⟨nd, rfl⟩⟩; (try first | exact ⟨rfl, _, World.drewN_drewN _ _ _⟩ | exact ⟨rfl, _, Eq.trans (World.drewN_drewN _ _ _) (congrArg (World.drewN _) (Nat.add_assoc _ _ _))⟩))); go_upto_region 8 with (first | (go_at_call 16; (with_reducible refine (word_Of.calls a2 x7_1 t115 _ A8.out).mono ?_); rintro e w11 ⟨rfl, hb⟩; have n0_ := Aside0.mk (below_step (by repeat (first | (with_reducible first | exact HB.out | apply below_alloc | apply pw_below_drewN | apply below_drew1) | exact HB.out)) hb); clear HB; have HB := n0_; clear n0_; (try clear hb); (try clear hb2); (try clear hk); (try clear hi)) | (go_at_call 17; (with_reducible refine (word_Set.calls k1 a0 a1 t115 t116 t117 _ A9.out).mono ?_); rintro e w' ⟨rfl, ⟨nd, rfl⟩⟩; (try first | exact ⟨rfl, _, World.drewN_drewN _ _ _⟩ | exact ⟨rfl, _, Eq.trans (World.drewN_drewN _ _ _) (congrArg (World.drewN _) (Nat.add_assoc _ _ _))⟩))))
          (try simp only [Act.put, List.setIfInBounds_toArray, List.set_cons_zero, List.set_cons_succ])
          go_cut [58] (fun v58 wc => ∃ (kq : Nat) (x58_9 : Bool), v58 = .bool x58_9 ∧ Aside0 (stevedorelaw01_WordBack.j1 kq a0 a1 a2 x7_1 t115 t116 t117 x58_9 = some r) ∧ Aside0 (kq ≤ k1) ∧ Aside0 (Below w.heap.size w wc))
          case first =>
            have H := HC10.out
            clear HC10
            by_cases c12 : a1 ≥ 0
            · rw [if_pos c12] at H
              have c12b0 : decide (0 ≤ a1) = true := decide_eq_true c12
              clear c12
              (first | rw [c12b0] | (simp only [i64_w, i32_w]; rw [c12b0]) | skip)
              by_cases c13 : a1 ≤ (a0.size : Int)
              · rw [if_pos c13] at H
                have c13b0 : decide (a1 ≤ (a0.size : Int)) = true := decide_eq_true c13
                clear c13
                have H' := Aside0.mk H
                clear H
                go_wp2
                repeat (go_quiet (fail); try go_wp2)
                go_meet
                case rel => exact ⟨_, (((t117 == 0) != (decide ((wrap64 ((a0.size : Int) - a1)) ≥ x7_1)))), (by first | rfl | (simp; done) | (simp [*]; done)), H', ⟨by have := HK1.out; first | omega | exact Nat.le_refl _⟩, ⟨by repeat (first | (with_reducible first | exact HB.out | apply below_alloc | apply pw_below_drewN | apply below_drew1) | exact HB.out)⟩⟩
              · rw [if_neg c13] at H
                have c13b0 : decide (a1 ≤ (a0.size : Int)) = false := decide_eq_false c13
                clear c13
                have H' := Aside0.mk H
                clear H
                go_wp2
                repeat (go_quiet (fail); try go_wp2)
                go_meet
                case rel => exact ⟨_, (((t117 == 0) != false)), (by first | rfl | (simp; done) | (simp [*]; done)), H', ⟨by have := HK1.out; first | omega | exact Nat.le_refl _⟩, ⟨by repeat (first | (with_reducible first | exact HB.out | apply below_alloc | apply pw_below_drewN | apply below_drew1) | exact HB.out)⟩⟩
            · rw [if_neg c12] at H
              have c12b0 : decide (0 ≤ a1) = false := decide_eq_false c12
              clear c12
              (first | rw [c12b0] | (simp only [i64_w, i32_w]; rw [c12b0]) | skip)
              have H' := Aside0.mk H
              clear H
              go_wp2
              repeat (go_quiet (fail); try go_wp2)
              go_meet
              case rel => exact ⟨_, (((t117 == 0) != false)), (by first | rfl | (simp; done) | (simp [*]; done)), H', ⟨by have := HK1.out; first | omega | exact Nat.le_refl _⟩, ⟨by repeat (first | (with_reducible first | exact HB.out | apply below_alloc | apply pw_below_drewN | apply below_drew1) | exact HB.out)⟩⟩
          case rest =>
            clear HC10
            try clear c1
            try clear p2
            try clear c4
            try clear c4b0
            try clear c4b1
            try clear p6
            try clear c7
            try clear c7b0
            try clear c12
            try clear c12b0
            try clear c13
            try clear c13b0
            try clear p2
            obtain ⟨kq, x58_9, rfl, HA, HJ9, HB⟩ := hcut
            cases kq with
            | zero => exact absurd HA.out (by simp [stevedorelaw01_WordBack.j1])
            | succ kj9 =>
              have H := HA.out
              clear HA
              simp only [stevedorelaw01_WordBack.j1] at H
              by_cases c14 : x58_9 = true
              · subst c14
                have H1 : (some false) = some r := by rw [if_pos rfl] at H; exact H
                clear H
                have H := H1
                clear H1
                obtain rfl := Option.some.inj H
                go_wp2
                repeat (go_quiet (fail); try go_wp2)
                go_ret
                exact ⟨by first | rfl | (simp [errW_none, errW_some] <;> rfl) | (simp [*, errW_none, errW_some] <;> rfl), by repeat (first | (with_reducible first | exact HB.out | apply below_alloc | apply pw_below_drewN | apply below_drew1) | exact HB.out)⟩
              · replace c14 := Bool.eq_false_iff.mpr c14
                subst c14
                have H1 : (if t117 = 0 then ((word_Text.f kj9 t116 a1 x7_1).bind fun bt118 => (if bt118.1.toList = t115.toList then (if bt118.2 = 0 then (if (t116.size : Int) = (a0.size : Int) then (if 0 ≤ a1 then (if a1 ≤ (t116.size : Int) then (if a1 ≤ (a0.size : Int) then (if (t116.extract 0 (a1 : Int).toNat).toList = (a0.extract 0 (a1 : Int).toNat).toList then (if 0 ≤ (wrap64 (a1 + x7_1)) then (if (wrap64 (a1 + x7_1)) ≤ (t116.size : Int) then (if (wrap64 (a1 + x7_1)) ≤ (a0.size : Int) then (stevedorelaw01_WordBack.j2 kj9 a0 a1 a2 x7_1 t116 ((t116.extract ((wrap64 (a1 + x7_1)) : Int).toNat t116.size).toList != (a0.extract ((wrap64 (a1 + x7_1)) : Int).toNat a0.size).toList)) else (none)) else (none)) else (none)) else (stevedorelaw01_WordBack.j2 kj9 a0 a1 a2 x7_1 t116 true)) else (none)) else (none)) else (none)) else (stevedorelaw01_WordBack.j2 kj9 a0 a1 a2 x7_1 t116 true)) else (stevedorelaw01_WordBack.j2 kj9 a0 a1 a2 x7_1 t116 true)) else (stevedorelaw01_WordBack.j2 kj9 a0 a1 a2 x7_1 t116 true))) else (stevedorelaw01_WordBack.l0 kj9 a0 a1 a2 (wrap64 (x7_1 + 1)))) = some r := by rw [if_neg (show ¬ (false = true) by decide)] at H; exact H
                clear H
                have H := H1
                clear H1
                by_cases c15 : t117 = 0
                · rw [if_pos c15] at H
                  have c15b0 : (t117 == 0) = true := beq_iff_eq.mpr c15
                  have c15b1 : (t117 != 0) = false := bne_eq_false_iff_eq.mpr c15
                  clear c15
                  replace H := Option.bind_eq_some_iff.mp H
                  obtain ⟨⟨t118, t119⟩, A160, H⟩ := H
                  replace H : (if t118.toList = t115.toList then (if t119 = 0 then (if (t116.size : Int) = (a0.size : Int) then (if 0 ≤ a1 then (if a1 ≤ (t116.size : Int) then (if a1 ≤ (a0.size : Int) then (if (t116.extract 0 (a1 : Int).toNat).toList = (a0.extract 0 (a1 : Int).toNat).toList then (if 0 ≤ (wrap64 (a1 + x7_1)) then (if (wrap64 (a1 + x7_1)) ≤ (t116.size : Int) then (if (wrap64 (a1 + x7_1)) ≤ (a0.size : Int) then (stevedorelaw01_WordBack.j2 kj9 a0 a1 a2 x7_1 t116 ((t116.extract ((wrap64 (a1 + x7_1)) : Int).toNat t116.size).toList != (a0.extract ((wrap64 (a1 + x7_1)) : Int).toNat a0.size).toList)) else (none)) else (none)) else (none)) else (stevedorelaw01_WordBack.j2 kj9 a0 a1 a2 x7_1 t116 true)) else (none)) else (none)) else (none)) else (stevedorelaw01_WordBack.j2 kj9 a0 a1 a2 x7_1 t116 true)) else (stevedorelaw01_WordBack.j2 kj9 a0 a1 a2 x7_1 t116 true)) else (stevedorelaw01_WordBack.j2 kj9 a0 a1 a2 x7_1 t116 true)) = some r := H
                  have A16 := Aside0.mk A160
                  clear A160
                  have HC17 := Aside0.mk H
                  clear H
                  go_upto_region 12 with (first | (go_at_call 12; (with_reducible refine (word_Text.calls kj9 t116 a1 x7_1 t118 t119 _ A16.out).mono ?_); rintro e w' ⟨rfl, ⟨nd, rfl⟩⟩; (try first | exact ⟨rfl, _, World.drewN_drewN _ _ _⟩ | exact ⟨rfl, _, Eq.trans (World.drewN_drewN _ _ _) (congrArg (World.drewN _) (Nat.add_assoc _ _ _))⟩)))
                  repeat (go_quiet (first | (go_at_call 12; (with_reducible refine (word_Text.calls kj9 t116 a1 x7_1 t118 t119 _ A16.out).mono ?_); rintro e w' ⟨rfl, ⟨nd, rfl⟩⟩; (try first | exact ⟨rfl, _, World.drewN_drewN _ _ _⟩ | exact ⟨rfl, _, Eq.trans (World.drewN_drewN _ _ _) (congrArg (World.drewN _) (Nat.add_assoc _ _ _))⟩))); go_upto_region 12 with (first | (go_at_call 12; (with_reducible refine (word_Text.calls kj9 t116 a1 x7_1 t118 t119 _ A16.out).mono ?_); rintro e w' ⟨rfl, ⟨nd, rfl⟩⟩; (try first | exact ⟨rfl, _, World.drewN_drewN _ _ _⟩ | exact ⟨rfl, _, Eq.trans (World.drewN_drewN _ _ _) (congrArg (World.drewN _) (Nat.add_assoc _ _ _))⟩))))
                  (try simp only [Act.put, List.setIfInBounds_toArray, List.set_cons_zero, List.set_cons_succ])
                  go_cut [103] (fun v103 wc => ∃ (kq : Nat) (x103_16 : Bool), v103 = .bool x103_16 ∧ Aside0 (stevedorelaw01_WordBack.j2 kq a0 a1 a2 x7_1 t116 x103_16 = some r) ∧ Aside0 (kq ≤ kj9) ∧ Aside0 (Below w.heap.size w wc))
                  case first =>
                    have H := HC17.out
                    clear HC17
                    by_cases c18 : t118.toList = t115.toList
                    · rw [if_pos c18] at H
                      have c18b0 : (t118.toList == t115.toList) = true := beq_iff_eq.mpr c18
                      have c18b1 : (t118.toList != t115.toList) = false := bne_eq_false_iff_eq.mpr c18
                      clear c18
                      (first | rw [c18b0] | (simp only [i64_w, i32_w]; rw [c18b0]) | skip)
                      by_cases c19 : t119 = 0
                      · rw [if_pos c19] at H
                        have c19b0 : (t119 == 0) = true := beq_iff_eq.mpr c19
                        have c19b1 : (t119 != 0) = false := bne_eq_false_iff_eq.mpr c19
                        clear c19
                        by_cases c20 : (t116.size : Int) = (a0.size : Int)
                        · rw [if_pos c20] at H
                          have c20b0 : ((t116.size : Int) == (a0.size : Int)) = true := beq_iff_eq.mpr c20
                          have c20b1 : ((t116.size : Int) != (a0.size : Int)) = false := bne_eq_false_iff_eq.mpr c20
                          have c20b2 : (t116.size == a0.size) = true := by first | simpa using c20 | (simp at c20 ⊢; omega)
                          clear c20
                          by_cases c21 : 0 ≤ a1
                          · rw [if_pos c21] at H
                            have c21b0 := eq_true c21
                            have c21b1 : decide (0 ≤ a1) = true := decide_eq_true c21
                            clear c21
                            by_cases c22 : a1 ≤ (t116.size : Int)
                            · rw [if_pos c22] at H
                              have c22b0 := eq_true c22
                              have c22b1 : decide (a1 ≤ (t116.size : Int)) = true := decide_eq_true c22
                              clear c22
                              have c23b0 := eq_true (of_decide_eq_true (by first | (with_reducible assumption) | assumption) : 0 ≤ a1)
                              by_cases c24 : a1 ≤ (a0.size : Int)
                              · rw [if_pos c24] at H
                                have c24b0 := eq_true c24
                                have c24b1 : decide (a1 ≤ (a0.size : Int)) = true := decide_eq_true c24
                                clear c24
                                by_cases c25 : (t116.extract 0 (a1 : Int).toNat).toList = (a0.extract 0 (a1 : Int).toNat).toList
                                · rw [if_pos c25] at H
                                  have c25b0 : ((t116.extract 0 (a1 : Int).toNat).toList == (a0.extract 0 (a1 : Int).toNat).toList) = true := beq_iff_eq.mpr c25
                                  have c25b1 : ((t116.extract 0 (a1 : Int).toNat).toList != (a0.extract 0 (a1 : Int).toNat).toList) = false := bne_eq_false_iff_eq.mpr c25
                                  clear c25
                                  obtain ⟨ji26, hji26⟩ : ∃ j_ : Int, (wrap64 (a1 + x7_1)) = j_ := ⟨_, rfl⟩
                                  replace H : (if 0 ≤ (ji26) then (if (ji26) ≤ (t116.size : Int) then (if (ji26) ≤ (a0.size : Int) then (stevedorelaw01_WordBack.j2 kj9 a0 a1 a2 x7_1 t116 ((t116.extract ((ji26) : Int).toNat t116.size).toList != (a0.extract ((ji26) : Int).toNat a0.size).toList)) else (none)) else (none)) else (none)) = some r := by first | (rw [hji26] at H; exact H) | (simp only [hji26] at H ⊢; exact H)
                                  have hji26w : (IntKind.i64.wrap (a1 + x7_1)) = ji26 := (i64_w _).trans hji26
                                  by_cases c27 : 0 ≤ (ji26)
                                  · rw [if_pos c27] at H
                                    have c27b0 := eq_true c27
                                    have c27b1 : decide (0 ≤ (ji26)) = true := decide_eq_true c27
                                    clear c27
                                    by_cases c28 : (ji26) ≤ (t116.size : Int)
                                    · rw [if_pos c28] at H
                                      have c28b0 := eq_true c28
                                      have c28b1 : decide ((ji26) ≤ (t116.size : Int)) = true := decide_eq_true c28
                                      clear c28
                                      have c29b0 := eq_true (of_decide_eq_true (by first | (with_reducible assumption) | assumption) : 0 ≤ (ji26))
                                      by_cases c30 : (ji26) ≤ (a0.size : Int)
                                      · rw [if_pos c30] at H
                                        have c30b0 := eq_true c30
                                        have c30b1 : decide ((ji26) ≤ (a0.size : Int)) = true := decide_eq_true c30
                                        clear c30
                                        have H' := Aside0.mk H
                                        clear H
                                        go_wp2
                                        repeat (go_quiet (fail); try go_wp2)
                                        go_meet
                                        case rel => exact ⟨_, (((t116.extract ((ji26) : Int).toNat t116.size).toList != (a0.extract ((ji26) : Int).toNat a0.size).toList)), (by first | rfl | (simp; done) | (simp only [← hji26] <;> (first | rfl | simp)) | (simp [*]; done)), H', ⟨by have := HK1.out; have := HJ9.out; first | omega | exact Nat.le_refl _⟩, ⟨by repeat (first | (with_reducible first | exact HB.out | apply below_alloc | apply pw_below_drewN | apply below_drew1) | exact HB.out)⟩⟩
                                      · rw [if_neg c30] at H
                                        exact absurd H (by simp)
                                    · rw [if_neg c28] at H
                                      exact absurd H (by simp)
                                  · rw [if_neg c27] at H
                                    exact absurd H (by simp)
                                · rw [if_neg c25] at H
                                  have c25b0 : ((t116.extract 0 (a1 : Int).toNat).toList == (a0.extract 0 (a1 : Int).toNat).toList) = false := beq_eq_false_iff_ne.mpr c25
                                  have c25b1 : ((t116.extract 0 (a1 : Int).toNat).toList != (a0.extract 0 (a1 : Int).toNat).toList) = true := bne_iff_ne.mpr c25
                                  have H' := Aside0.mk H
                                  clear H
                                  go_wp2
                                  repeat (go_quiet (fail); try go_wp2)
                                  go_meet
                                  case rel => exact ⟨_, (true), (by first | rfl | (simp; done) | (simp [*]; done)), H', ⟨by have := HK1.out; have := HJ9.out; first | omega | exact Nat.le_refl _⟩, ⟨by repeat (first | (with_reducible first | exact HB.out | apply below_alloc | apply pw_below_drewN | apply below_drew1) | exact HB.out)⟩⟩
                              · rw [if_neg c24] at H
                                exact absurd H (by simp)
                            · rw [if_neg c22] at H
                              exact absurd H (by simp)
                          · rw [if_neg c21] at H
                            exact absurd H (by simp)
                        · rw [if_neg c20] at H
                          have c20b0 : ((t116.size : Int) == (a0.size : Int)) = false := beq_eq_false_iff_ne.mpr c20
                          have c20b1 : ((t116.size : Int) != (a0.size : Int)) = true := bne_iff_ne.mpr c20
                          have c20b2 : (t116.size == a0.size) = false := by first | simpa using c20 | (simp at c20 ⊢; omega)
                          have H' := Aside0.mk H
                          clear H
                          go_wp2
                          repeat (go_quiet (fail); try go_wp2)
                          go_meet
                          case rel => exact ⟨_, (true), (by first | rfl | (simp; done) | (simp [*]; done)), H', ⟨by have := HK1.out; have := HJ9.out; first | omega | exact Nat.le_refl _⟩, ⟨by repeat (first | (with_reducible first | exact HB.out | apply below_alloc | apply pw_below_drewN | apply below_drew1) | exact HB.out)⟩⟩
                      · rw [if_neg c19] at H
                        have c19b0 : (t119 == 0) = false := beq_eq_false_iff_ne.mpr c19
                        have c19b1 : (t119 != 0) = true := bne_iff_ne.mpr c19
                        have H' := Aside0.mk H
                        clear H
                        go_wp2
                        repeat (go_quiet (fail); try go_wp2)
                        go_meet
                        case rel => exact ⟨_, (true), (by first | rfl | (simp; done) | (simp [*]; done)), H', ⟨by have := HK1.out; have := HJ9.out; first | omega | exact Nat.le_refl _⟩, ⟨by repeat (first | (with_reducible first | exact HB.out | apply below_alloc | apply pw_below_drewN | apply below_drew1) | exact HB.out)⟩⟩
                    · rw [if_neg c18] at H
                      have c18b0 : (t118.toList == t115.toList) = false := beq_eq_false_iff_ne.mpr c18
                      have c18b1 : (t118.toList != t115.toList) = true := bne_iff_ne.mpr c18
                      (first | rw [c18b0] | (simp only [i64_w, i32_w]; rw [c18b0]) | skip)
                      have H' := Aside0.mk H
                      clear H
                      go_wp2
                      repeat (go_quiet (fail); try go_wp2)
                      go_meet
                      case rel => exact ⟨_, (true), (by first | rfl | (simp; done) | (simp [*]; done)), H', ⟨by have := HK1.out; have := HJ9.out; first | omega | exact Nat.le_refl _⟩, ⟨by repeat (first | (with_reducible first | exact HB.out | apply below_alloc | apply pw_below_drewN | apply below_drew1) | exact HB.out)⟩⟩
                  case rest =>
                    clear HC17
                    try clear c1
                    try clear c2
                    try clear p2
                    try clear c3
                    try clear c4
                    try clear c4b0
                    try clear c4b1
                    try clear p6
                    try clear c7
                    try clear c7b0
                    try clear c12
                    try clear c12b0
                    try clear c13
                    try clear c13b0
                    try clear c14
                    try clear c15
                    try clear c15b0
                    try clear c15b1
                    try clear c18
                    try clear c18b0
                    try clear c18b1
                    try clear c19
                    try clear c19b0
                    try clear c19b1
                    try clear c20
                    try clear c20b0
                    try clear c20b1
                    try clear c20b2
                    try clear c21
                    try clear c21b0
                    try clear c21b1
                    try clear c22
                    try clear c22b0
                    try clear c22b1
                    try clear c23
                    try clear c23b0
                    try clear c24
                    try clear c24b0
                    try clear c24b1
                    try clear c25
                    try clear c25b0
                    try clear c25b1
                    try clear c27
                    try clear c27b0
                    try clear c27b1
                    try clear c28
                    try clear c28b0
                    try clear c28b1
                    try clear c29
                    try clear c29b0
                    try clear c30
                    try clear c30b0
                    try clear c30b1
                    try clear p2
                    try clear p6
                    obtain ⟨kq, x103_16, rfl, HA, HJ16, HB⟩ := hcut
                    cases kq with
                    | zero => exact absurd HA.out (by simp [stevedorelaw01_WordBack.j2])
                    | succ kj16 =>
                      have H := HA.out
                      clear HA
                      simp only [stevedorelaw01_WordBack.j2] at H
                      by_cases c31 : x103_16 = true
                      · subst c31
                        have H1 : (some false) = some r := by rw [if_pos rfl] at H; exact H
                        clear H
                        have H := H1
                        clear H1
                        obtain rfl := Option.some.inj H
                        go_wp2
                        repeat (go_quiet (fail); try go_wp2)
                        go_ret
                        exact ⟨by first | rfl | (simp [errW_none, errW_some] <;> rfl) | (simp [*, errW_none, errW_some] <;> rfl), by repeat (first | (with_reducible first | exact HB.out | apply below_alloc | apply pw_below_drewN | apply below_drew1) | exact HB.out)⟩
                      · replace c31 := Bool.eq_false_iff.mpr c31
                        subst c31
                        have H1 : (if x7_1 = 1 then ((word_Byte.f kj16 t116 a1).bind fun bt120 => (if 0 ≤ (IntKind.u64.wrap (wrap64 (8 * x7_1))) then (if (IntKind.u64.wrap (bt120.1)) = (Go.bits .and .u64 a2 (IntKind.u64.wrap ((shl .u64 1 (IntKind.u64.wrap (wrap64 (8 * x7_1)))) - 1))) then (stevedorelaw01_WordBack.l0 kj16 a0 a1 a2 (wrap64 (x7_1 + 1))) else (some false)) else (none))) else (if x7_1 = 2 then ((word_Two.f kj16 t116 a1).bind fun bt122 => (if 0 ≤ (IntKind.u64.wrap (wrap64 (8 * x7_1))) then (if (IntKind.u64.wrap (bt122.1)) = (Go.bits .and .u64 a2 (IntKind.u64.wrap ((shl .u64 1 (IntKind.u64.wrap (wrap64 (8 * x7_1)))) - 1))) then (stevedorelaw01_WordBack.l0 kj16 a0 a1 a2 (wrap64 (x7_1 + 1))) else (some false)) else (none))) else (if x7_1 = 4 then ((word_Four.f kj16 t116 a1).bind fun bt124 => (if 0 ≤ (IntKind.u64.wrap (wrap64 (8 * x7_1))) then (if (IntKind.u64.wrap (bt124.1)) = (Go.bits .and .u64 a2 (IntKind.u64.wrap ((shl .u64 1 (IntKind.u64.wrap (wrap64 (8 * x7_1)))) - 1))) then (stevedorelaw01_WordBack.l0 kj16 a0 a1 a2 (wrap64 (x7_1 + 1))) else (some false)) else (none))) else (if x7_1 = 6 then ((word_Six.f kj16 t116 a1).bind fun bt126 => (if 0 ≤ (IntKind.u64.wrap (wrap64 (8 * x7_1))) then (if bt126.1 = (Go.bits .and .u64 a2 (IntKind.u64.wrap ((shl .u64 1 (IntKind.u64.wrap (wrap64 (8 * x7_1)))) - 1))) then (stevedorelaw01_WordBack.l0 kj16 a0 a1 a2 (wrap64 (x7_1 + 1))) else (some false)) else (none))) else (stevedorelaw01_WordBack.l0 kj16 a0 a1 a2 (wrap64 (x7_1 + 1))))))) = some r := by rw [if_neg (show ¬ (false = true) by decide)] at H; exact H
                        clear H
                        have H := H1
                        clear H1
                        by_cases c32 : x7_1 = 1
                        · rw [if_pos c32] at H
                          have c32b0 : (x7_1 == 1) = true := beq_iff_eq.mpr c32
                          have c32b1 : (x7_1 != 1) = false := bne_eq_false_iff_eq.mpr c32
                          clear c32
                          replace H := Option.bind_eq_some_iff.mp H
                          obtain ⟨⟨t120, t121⟩, A330, H⟩ := H
                          replace H : (if 0 ≤ (IntKind.u64.wrap (wrap64 (8 * x7_1))) then (if (IntKind.u64.wrap (t120)) = (Go.bits .and .u64 a2 (IntKind.u64.wrap ((shl .u64 1 (IntKind.u64.wrap (wrap64 (8 * x7_1)))) - 1))) then (stevedorelaw01_WordBack.l0 kj16 a0 a1 a2 (wrap64 (x7_1 + 1))) else (some false)) else (none)) = some r := H
                          have A33 := Aside0.mk A330
                          clear A330
                          obtain ⟨ji34, hji34⟩ : ∃ j_ : Int, (IntKind.u64.wrap (wrap64 (8 * x7_1))) = j_ := ⟨_, rfl⟩
                          replace H : (if 0 ≤ (ji34) then (if (IntKind.u64.wrap (t120)) = (Go.bits .and .u64 a2 (IntKind.u64.wrap ((shl .u64 1 (ji34)) - 1))) then (stevedorelaw01_WordBack.l0 kj16 a0 a1 a2 (wrap64 (x7_1 + 1))) else (some false)) else (none)) = some r := by first | (rw [hji34] at H; exact H) | (simp only [hji34] at H ⊢; exact H)
                          (try rw [hji34] at A33)
                          by_cases c35 : 0 ≤ (ji34)
                          · rw [if_pos c35] at H
                            have c35b0 := eq_true c35
                            have c35b1 : decide (0 ≤ (ji34)) = true := decide_eq_true c35
                            clear c35
                            obtain ⟨ji36, hji36⟩ : ∃ j_ : Int, (shl .u64 1 (ji34)) = j_ := ⟨_, rfl⟩
                            replace H : (if (IntKind.u64.wrap (t120)) = (Go.bits .and .u64 a2 (IntKind.u64.wrap ((ji36) - 1))) then (stevedorelaw01_WordBack.l0 kj16 a0 a1 a2 (wrap64 (x7_1 + 1))) else (some false)) = some r := by first | (rw [hji36] at H; exact H) | (simp only [hji36] at H ⊢; exact H)
                            (try rw [hji36] at A33)
                            have hji36_ : (IntKind.u64.wrap (1 * 2 ^ min (ji34).toNat 64)) = ji36 := hji36
                            have hji36z : (ji34) ≤ 64 → (IntKind.u64.wrap (1 * 2 ^ (ji34).toNat)) = ji36 := shl_small hji36
                            have hji36u : (IntKind.u64.wrap (2 ^ min (ji34).toNat 64)) = ji36 := by have h_ := hji36_; rw [Int.one_mul] at h_; exact h_
                            have hji36v : (ji34) ≤ 64 → (IntKind.u64.wrap (2 ^ (ji34).toNat)) = ji36 := fun hle_ => by have h_ := hji36z hle_; rw [Int.one_mul] at h_; exact h_
                            by_cases c37 : (IntKind.u64.wrap (t120)) = (Go.bits .and .u64 a2 (IntKind.u64.wrap ((ji36) - 1)))
                            · rw [if_pos c37] at H
                              have c37b0 : ((IntKind.u64.wrap (t120)) == (Go.bits .and .u64 a2 (IntKind.u64.wrap ((ji36) - 1)))) = true := beq_iff_eq.mpr c37
                              have c37b1 : ((IntKind.u64.wrap (t120)) != (Go.bits .and .u64 a2 (IntKind.u64.wrap ((ji36) - 1)))) = false := bne_eq_false_iff_eq.mpr c37
                              clear c37
                              have H' := Aside0.mk H
                              clear H
                              go_wp2_with (first | (go_at_call 7; (with_reducible refine (word_Byte.calls kj16 t116 a1 t120 t121 _ A33.out).mono ?_); rintro e w38 ⟨rfl, hb⟩; have n0_ := Aside0.mk (below_step (by repeat (first | (with_reducible first | exact HB.out | apply below_alloc | apply pw_below_drewN | apply below_drew1) | exact HB.out)) hb); clear HB; have HB := n0_; clear n0_; (try clear hb); (try clear hb2); (try clear hk); (try clear hi)))
                              repeat (go_quiet (first | (go_at_call 7; (with_reducible refine (word_Byte.calls kj16 t116 a1 t120 t121 _ A33.out).mono ?_); rintro e w38 ⟨rfl, hb⟩; have n0_ := Aside0.mk (below_step (by repeat (first | (with_reducible first | exact HB.out | apply below_alloc | apply pw_below_drewN | apply below_drew1) | exact HB.out)) hb); clear HB; have HB := n0_; clear n0_; (try clear hb); (try clear hb2); (try clear hk); (try clear hi))); try go_wp2_with (first | (go_at_call 7; (with_reducible refine (word_Byte.calls kj16 t116 a1 t120 t121 _ A33.out).mono ?_); rintro e w38 ⟨rfl, hb⟩; have n0_ := Aside0.mk (below_step (by repeat (first | (with_reducible first | exact HB.out | apply below_alloc | apply pw_below_drewN | apply below_drew1) | exact HB.out)) hb); clear HB; have HB := n0_; clear n0_; (try clear hb); (try clear hb2); (try clear hk); (try clear hi))))
                              go_roundg kj16
                              case measure => have := HK1.out; have := HJ9.out; have := HJ16.out; omega
                              case rel => exact ⟨(wrap64 (x7_1 + 1)), (by first | rfl | (simp; done) | (simp [*]; done)), H', ⟨by have := HK1.out; have := HJ9.out; have := HJ16.out; omega⟩, ⟨by repeat (first | (with_reducible first | exact HB.out | apply below_alloc | apply pw_below_drewN | apply below_drew1) | exact HB.out)⟩⟩
                            · rw [if_neg c37] at H
                              have c37b0 : ((IntKind.u64.wrap (t120)) == (Go.bits .and .u64 a2 (IntKind.u64.wrap ((ji36) - 1)))) = false := beq_eq_false_iff_ne.mpr c37
                              have c37b1 : ((IntKind.u64.wrap (t120)) != (Go.bits .and .u64 a2 (IntKind.u64.wrap ((ji36) - 1)))) = true := bne_iff_ne.mpr c37
                              obtain rfl := Option.some.inj H
                              go_wp2_with (first | (go_at_call 7; (with_reducible refine (word_Byte.calls kj16 t116 a1 t120 t121 _ A33.out).mono ?_); rintro e w39 ⟨rfl, hb⟩; have n0_ := Aside0.mk (below_step (by repeat (first | (with_reducible first | exact HB.out | apply below_alloc | apply pw_below_drewN | apply below_drew1) | exact HB.out)) hb); clear HB; have HB := n0_; clear n0_; (try clear hb); (try clear hb2); (try clear hk); (try clear hi)))
                              repeat (go_quiet (first | (go_at_call 7; (with_reducible refine (word_Byte.calls kj16 t116 a1 t120 t121 _ A33.out).mono ?_); rintro e w39 ⟨rfl, hb⟩; have n0_ := Aside0.mk (below_step (by repeat (first | (with_reducible first | exact HB.out | apply below_alloc | apply pw_below_drewN | apply below_drew1) | exact HB.out)) hb); clear HB; have HB := n0_; clear n0_; (try clear hb); (try clear hb2); (try clear hk); (try clear hi))); try go_wp2_with (first | (go_at_call 7; (with_reducible refine (word_Byte.calls kj16 t116 a1 t120 t121 _ A33.out).mono ?_); rintro e w39 ⟨rfl, hb⟩; have n0_ := Aside0.mk (below_step (by repeat (first | (with_reducible first | exact HB.out | apply below_alloc | apply pw_below_drewN | apply below_drew1) | exact HB.out)) hb); clear HB; have HB := n0_; clear n0_; (try clear hb); (try clear hb2); (try clear hk); (try clear hi))))
                              go_ret
                              exact ⟨by first | rfl | (simp [errW_none, errW_some] <;> rfl) | (simp only [← hji34, ← hji36]; first | rfl | (simp [errW_none, errW_some] <;> rfl)) | (simp [*, errW_none, errW_some] <;> rfl), by repeat (first | (with_reducible first | exact HB.out | apply below_alloc | apply pw_below_drewN | apply below_drew1) | exact HB.out)⟩
                          · rw [if_neg c35] at H
                            exact absurd H (by simp)
                        · rw [if_neg c32] at H
                          have c32b0 : (x7_1 == 1) = false := beq_eq_false_iff_ne.mpr c32
                          have c32b1 : (x7_1 != 1) = true := bne_iff_ne.mpr c32
                          by_cases c40 : x7_1 = 2
                          · rw [if_pos c40] at H
                            have c40b0 : (x7_1 == 2) = true := beq_iff_eq.mpr c40
                            have c40b1 : (x7_1 != 2) = false := bne_eq_false_iff_eq.mpr c40
                            clear c40
                            replace H := Option.bind_eq_some_iff.mp H
                            obtain ⟨⟨t122, t123⟩, A410, H⟩ := H
                            replace H : (if 0 ≤ (IntKind.u64.wrap (wrap64 (8 * x7_1))) then (if (IntKind.u64.wrap (t122)) = (Go.bits .and .u64 a2 (IntKind.u64.wrap ((shl .u64 1 (IntKind.u64.wrap (wrap64 (8 * x7_1)))) - 1))) then (stevedorelaw01_WordBack.l0 kj16 a0 a1 a2 (wrap64 (x7_1 + 1))) else (some false)) else (none)) = some r := H
                            have A41 := Aside0.mk A410
                            clear A410
                            obtain ⟨ji42, hji42⟩ : ∃ j_ : Int, (IntKind.u64.wrap (wrap64 (8 * x7_1))) = j_ := ⟨_, rfl⟩
                            replace H : (if 0 ≤ (ji42) then (if (IntKind.u64.wrap (t122)) = (Go.bits .and .u64 a2 (IntKind.u64.wrap ((shl .u64 1 (ji42)) - 1))) then (stevedorelaw01_WordBack.l0 kj16 a0 a1 a2 (wrap64 (x7_1 + 1))) else (some false)) else (none)) = some r := by first | (rw [hji42] at H; exact H) | (simp only [hji42] at H ⊢; exact H)
                            (try rw [hji42] at A41)
                            by_cases c43 : 0 ≤ (ji42)
                            · rw [if_pos c43] at H
                              have c43b0 := eq_true c43
                              have c43b1 : decide (0 ≤ (ji42)) = true := decide_eq_true c43
                              clear c43
                              obtain ⟨ji44, hji44⟩ : ∃ j_ : Int, (shl .u64 1 (ji42)) = j_ := ⟨_, rfl⟩
                              replace H : (if (IntKind.u64.wrap (t122)) = (Go.bits .and .u64 a2 (IntKind.u64.wrap ((ji44) - 1))) then (stevedorelaw01_WordBack.l0 kj16 a0 a1 a2 (wrap64 (x7_1 + 1))) else (some false)) = some r := by first | (rw [hji44] at H; exact H) | (simp only [hji44] at H ⊢; exact H)
                              (try rw [hji44] at A41)
                              have hji44_ : (IntKind.u64.wrap (1 * 2 ^ min (ji42).toNat 64)) = ji44 := hji44
                              have hji44z : (ji42) ≤ 64 → (IntKind.u64.wrap (1 * 2 ^ (ji42).toNat)) = ji44 := shl_small hji44
                              have hji44u : (IntKind.u64.wrap (2 ^ min (ji42).toNat 64)) = ji44 := by have h_ := hji44_; rw [Int.one_mul] at h_; exact h_
                              have hji44v : (ji42) ≤ 64 → (IntKind.u64.wrap (2 ^ (ji42).toNat)) = ji44 := fun hle_ => by have h_ := hji44z hle_; rw [Int.one_mul] at h_; exact h_
                              by_cases c45 : (IntKind.u64.wrap (t122)) = (Go.bits .and .u64 a2 (IntKind.u64.wrap ((ji44) - 1)))
                              · rw [if_pos c45] at H
                                have c45b0 : ((IntKind.u64.wrap (t122)) == (Go.bits .and .u64 a2 (IntKind.u64.wrap ((ji44) - 1)))) = true := beq_iff_eq.mpr c45
                                have c45b1 : ((IntKind.u64.wrap (t122)) != (Go.bits .and .u64 a2 (IntKind.u64.wrap ((ji44) - 1)))) = false := bne_eq_false_iff_eq.mpr c45
                                clear c45
                                have H' := Aside0.mk H
                                clear H
                                go_wp2_with (first | (go_at_call 9; (with_reducible refine (word_Two.calls kj16 t116 a1 t122 t123 _ A41.out).mono ?_); rintro e w46 ⟨rfl, hb⟩; have n0_ := Aside0.mk (below_step (by repeat (first | (with_reducible first | exact HB.out | apply below_alloc | apply pw_below_drewN | apply below_drew1) | exact HB.out)) hb); clear HB; have HB := n0_; clear n0_; (try clear hb); (try clear hb2); (try clear hk); (try clear hi)))
                                repeat (go_quiet (first | (go_at_call 9; (with_reducible refine (word_Two.calls kj16 t116 a1 t122 t123 _ A41.out).mono ?_); rintro e w46 ⟨rfl, hb⟩; have n0_ := Aside0.mk (below_step (by repeat (first | (with_reducible first | exact HB.out | apply below_alloc | apply pw_below_drewN | apply below_drew1) | exact HB.out)) hb); clear HB; have HB := n0_; clear n0_; (try clear hb); (try clear hb2); (try clear hk); (try clear hi))); try go_wp2_with (first | (go_at_call 9; (with_reducible refine (word_Two.calls kj16 t116 a1 t122 t123 _ A41.out).mono ?_); rintro e w46 ⟨rfl, hb⟩; have n0_ := Aside0.mk (below_step (by repeat (first | (with_reducible first | exact HB.out | apply below_alloc | apply pw_below_drewN | apply below_drew1) | exact HB.out)) hb); clear HB; have HB := n0_; clear n0_; (try clear hb); (try clear hb2); (try clear hk); (try clear hi))))
                                go_roundg kj16
                                case measure => have := HK1.out; have := HJ9.out; have := HJ16.out; omega
                                case rel => exact ⟨(wrap64 (x7_1 + 1)), (by first | rfl | (simp; done) | (simp [*]; done)), H', ⟨by have := HK1.out; have := HJ9.out; have := HJ16.out; omega⟩, ⟨by repeat (first | (with_reducible first | exact HB.out | apply below_alloc | apply pw_below_drewN | apply below_drew1) | exact HB.out)⟩⟩
                              · rw [if_neg c45] at H
                                have c45b0 : ((IntKind.u64.wrap (t122)) == (Go.bits .and .u64 a2 (IntKind.u64.wrap ((ji44) - 1)))) = false := beq_eq_false_iff_ne.mpr c45
                                have c45b1 : ((IntKind.u64.wrap (t122)) != (Go.bits .and .u64 a2 (IntKind.u64.wrap ((ji44) - 1)))) = true := bne_iff_ne.mpr c45
                                obtain rfl := Option.some.inj H
                                go_wp2_with (first | (go_at_call 9; (with_reducible refine (word_Two.calls kj16 t116 a1 t122 t123 _ A41.out).mono ?_); rintro e w47 ⟨rfl, hb⟩; have n0_ := Aside0.mk (below_step (by repeat (first | (with_reducible first | exact HB.out | apply below_alloc | apply pw_below_drewN | apply below_drew1) | exact HB.out)) hb); clear HB; have HB := n0_; clear n0_; (try clear hb); (try clear hb2); (try clear hk); (try clear hi)))
                                repeat (go_quiet (first | (go_at_call 9; (with_reducible refine (word_Two.calls kj16 t116 a1 t122 t123 _ A41.out).mono ?_); rintro e w47 ⟨rfl, hb⟩; have n0_ := Aside0.mk (below_step (by repeat (first | (with_reducible first | exact HB.out | apply below_alloc | apply pw_below_drewN | apply below_drew1) | exact HB.out)) hb); clear HB; have HB := n0_; clear n0_; (try clear hb); (try clear hb2); (try clear hk); (try clear hi))); try go_wp2_with (first | (go_at_call 9; (with_reducible refine (word_Two.calls kj16 t116 a1 t122 t123 _ A41.out).mono ?_); rintro e w47 ⟨rfl, hb⟩; have n0_ := Aside0.mk (below_step (by repeat (first | (with_reducible first | exact HB.out | apply below_alloc | apply pw_below_drewN | apply below_drew1) | exact HB.out)) hb); clear HB; have HB := n0_; clear n0_; (try clear hb); (try clear hb2); (try clear hk); (try clear hi))))
                                go_ret
                                exact ⟨by first | rfl | (simp [errW_none, errW_some] <;> rfl) | (simp only [← hji42, ← hji44]; first | rfl | (simp [errW_none, errW_some] <;> rfl)) | (simp [*, errW_none, errW_some] <;> rfl), by repeat (first | (with_reducible first | exact HB.out | apply below_alloc | apply pw_below_drewN | apply below_drew1) | exact HB.out)⟩
                            · rw [if_neg c43] at H
                              exact absurd H (by simp)
                          · rw [if_neg c40] at H
                            have c40b0 : (x7_1 == 2) = false := beq_eq_false_iff_ne.mpr c40
                            have c40b1 : (x7_1 != 2) = true := bne_iff_ne.mpr c40
                            by_cases c48 : x7_1 = 4
                            · rw [if_pos c48] at H
                              have c48b0 : (x7_1 == 4) = true := beq_iff_eq.mpr c48
                              have c48b1 : (x7_1 != 4) = false := bne_eq_false_iff_eq.mpr c48
                              clear c48
                              replace H := Option.bind_eq_some_iff.mp H
                              obtain ⟨⟨t124, t125⟩, A490, H⟩ := H
                              replace H : (if 0 ≤ (IntKind.u64.wrap (wrap64 (8 * x7_1))) then (if (IntKind.u64.wrap (t124)) = (Go.bits .and .u64 a2 (IntKind.u64.wrap ((shl .u64 1 (IntKind.u64.wrap (wrap64 (8 * x7_1)))) - 1))) then (stevedorelaw01_WordBack.l0 kj16 a0 a1 a2 (wrap64 (x7_1 + 1))) else (some false)) else (none)) = some r := H
                              have A49 := Aside0.mk A490
                              clear A490
                              obtain ⟨ji50, hji50⟩ : ∃ j_ : Int, (IntKind.u64.wrap (wrap64 (8 * x7_1))) = j_ := ⟨_, rfl⟩
                              replace H : (if 0 ≤ (ji50) then (if (IntKind.u64.wrap (t124)) = (Go.bits .and .u64 a2 (IntKind.u64.wrap ((shl .u64 1 (ji50)) - 1))) then (stevedorelaw01_WordBack.l0 kj16 a0 a1 a2 (wrap64 (x7_1 + 1))) else (some false)) else (none)) = some r := by first | (rw [hji50] at H; exact H) | (simp only [hji50] at H ⊢; exact H)
                              (try rw [hji50] at A49)
                              by_cases c51 : 0 ≤ (ji50)
                              · rw [if_pos c51] at H
                                have c51b0 := eq_true c51
                                have c51b1 : decide (0 ≤ (ji50)) = true := decide_eq_true c51
                                clear c51
                                obtain ⟨ji52, hji52⟩ : ∃ j_ : Int, (shl .u64 1 (ji50)) = j_ := ⟨_, rfl⟩
                                replace H : (if (IntKind.u64.wrap (t124)) = (Go.bits .and .u64 a2 (IntKind.u64.wrap ((ji52) - 1))) then (stevedorelaw01_WordBack.l0 kj16 a0 a1 a2 (wrap64 (x7_1 + 1))) else (some false)) = some r := by first | (rw [hji52] at H; exact H) | (simp only [hji52] at H ⊢; exact H)
                                (try rw [hji52] at A49)
                                have hji52_ : (IntKind.u64.wrap (1 * 2 ^ min (ji50).toNat 64)) = ji52 := hji52
                                have hji52z : (ji50) ≤ 64 → (IntKind.u64.wrap (1 * 2 ^ (ji50).toNat)) = ji52 := shl_small hji52
                                have hji52u : (IntKind.u64.wrap (2 ^ min (ji50).toNat 64)) = ji52 := by have h_ := hji52_; rw [Int.one_mul] at h_; exact h_
                                have hji52v : (ji50) ≤ 64 → (IntKind.u64.wrap (2 ^ (ji50).toNat)) = ji52 := fun hle_ => by have h_ := hji52z hle_; rw [Int.one_mul] at h_; exact h_
                                by_cases c53 : (IntKind.u64.wrap (t124)) = (Go.bits .and .u64 a2 (IntKind.u64.wrap ((ji52) - 1)))
                                · rw [if_pos c53] at H
                                  have c53b0 : ((IntKind.u64.wrap (t124)) == (Go.bits .and .u64 a2 (IntKind.u64.wrap ((ji52) - 1)))) = true := beq_iff_eq.mpr c53
                                  have c53b1 : ((IntKind.u64.wrap (t124)) != (Go.bits .and .u64 a2 (IntKind.u64.wrap ((ji52) - 1)))) = false := bne_eq_false_iff_eq.mpr c53
                                  clear c53
                                  have H' := Aside0.mk H
                                  clear H
                                  go_wp2_with (first | (go_at_call 10; (with_reducible refine (word_Four.calls kj16 t116 a1 t124 t125 _ A49.out).mono ?_); rintro e w54 ⟨rfl, hb⟩; have n0_ := Aside0.mk (below_step (by repeat (first | (with_reducible first | exact HB.out | apply below_alloc | apply pw_below_drewN | apply below_drew1) | exact HB.out)) hb); clear HB; have HB := n0_; clear n0_; (try clear hb); (try clear hb2); (try clear hk); (try clear hi)))
                                  repeat (go_quiet (first | (go_at_call 10; (with_reducible refine (word_Four.calls kj16 t116 a1 t124 t125 _ A49.out).mono ?_); rintro e w54 ⟨rfl, hb⟩; have n0_ := Aside0.mk (below_step (by repeat (first | (with_reducible first | exact HB.out | apply below_alloc | apply pw_below_drewN | apply below_drew1) | exact HB.out)) hb); clear HB; have HB := n0_; clear n0_; (try clear hb); (try clear hb2); (try clear hk); (try clear hi))); try go_wp2_with (first | (go_at_call 10; (with_reducible refine (word_Four.calls kj16 t116 a1 t124 t125 _ A49.out).mono ?_); rintro e w54 ⟨rfl, hb⟩; have n0_ := Aside0.mk (below_step (by repeat (first | (with_reducible first | exact HB.out | apply below_alloc | apply pw_below_drewN | apply below_drew1) | exact HB.out)) hb); clear HB; have HB := n0_; clear n0_; (try clear hb); (try clear hb2); (try clear hk); (try clear hi))))
                                  go_roundg kj16
                                  case measure => have := HK1.out; have := HJ9.out; have := HJ16.out; omega
                                  case rel => exact ⟨(wrap64 (x7_1 + 1)), (by first | rfl | (simp; done) | (simp [*]; done)), H', ⟨by have := HK1.out; have := HJ9.out; have := HJ16.out; omega⟩, ⟨by repeat (first | (with_reducible first | exact HB.out | apply below_alloc | apply pw_below_drewN | apply below_drew1) | exact HB.out)⟩⟩
                                · rw [if_neg c53] at H
                                  have c53b0 : ((IntKind.u64.wrap (t124)) == (Go.bits .and .u64 a2 (IntKind.u64.wrap ((ji52) - 1)))) = false := beq_eq_false_iff_ne.mpr c53
                                  have c53b1 : ((IntKind.u64.wrap (t124)) != (Go.bits .and .u64 a2 (IntKind.u64.wrap ((ji52) - 1)))) = true := bne_iff_ne.mpr c53
                                  obtain rfl := Option.some.inj H
                                  go_wp2_with (first | (go_at_call 10; (with_reducible refine (word_Four.calls kj16 t116 a1 t124 t125 _ A49.out).mono ?_); rintro e w55 ⟨rfl, hb⟩; have n0_ := Aside0.mk (below_step (by repeat (first | (with_reducible first | exact HB.out | apply below_alloc | apply pw_below_drewN | apply below_drew1) | exact HB.out)) hb); clear HB; have HB := n0_; clear n0_; (try clear hb); (try clear hb2); (try clear hk); (try clear hi)))
                                  repeat (go_quiet (first | (go_at_call 10; (with_reducible refine (word_Four.calls kj16 t116 a1 t124 t125 _ A49.out).mono ?_); rintro e w55 ⟨rfl, hb⟩; have n0_ := Aside0.mk (below_step (by repeat (first | (with_reducible first | exact HB.out | apply below_alloc | apply pw_below_drewN | apply below_drew1) | exact HB.out)) hb); clear HB; have HB := n0_; clear n0_; (try clear hb); (try clear hb2); (try clear hk); (try clear hi))); try go_wp2_with (first | (go_at_call 10; (with_reducible refine (word_Four.calls kj16 t116 a1 t124 t125 _ A49.out).mono ?_); rintro e w55 ⟨rfl, hb⟩; have n0_ := Aside0.mk (below_step (by repeat (first | (with_reducible first | exact HB.out | apply below_alloc | apply pw_below_drewN | apply below_drew1) | exact HB.out)) hb); clear HB; have HB := n0_; clear n0_; (try clear hb); (try clear hb2); (try clear hk); (try clear hi))))
                                  go_ret
                                  exact ⟨by first | rfl | (simp [errW_none, errW_some] <;> rfl) | (simp only [← hji50, ← hji52]; first | rfl | (simp [errW_none, errW_some] <;> rfl)) | (simp [*, errW_none, errW_some] <;> rfl), by repeat (first | (with_reducible first | exact HB.out | apply below_alloc | apply pw_below_drewN | apply below_drew1) | exact HB.out)⟩
                              · rw [if_neg c51] at H
                                exact absurd H (by simp)
                            · rw [if_neg c48] at H
                              have c48b0 : (x7_1 == 4) = false := beq_eq_false_iff_ne.mpr c48
                              have c48b1 : (x7_1 != 4) = true := bne_iff_ne.mpr c48
                              by_cases c56 : x7_1 = 6
                              · rw [if_pos c56] at H
                                have c56b0 : (x7_1 == 6) = true := beq_iff_eq.mpr c56
                                have c56b1 : (x7_1 != 6) = false := bne_eq_false_iff_eq.mpr c56
                                clear c56
                                replace H := Option.bind_eq_some_iff.mp H
                                obtain ⟨⟨t126, t127⟩, A570, H⟩ := H
                                replace H : (if 0 ≤ (IntKind.u64.wrap (wrap64 (8 * x7_1))) then (if t126 = (Go.bits .and .u64 a2 (IntKind.u64.wrap ((shl .u64 1 (IntKind.u64.wrap (wrap64 (8 * x7_1)))) - 1))) then (stevedorelaw01_WordBack.l0 kj16 a0 a1 a2 (wrap64 (x7_1 + 1))) else (some false)) else (none)) = some r := H
                                have A57 := Aside0.mk A570
                                clear A570
                                obtain ⟨ji58, hji58⟩ : ∃ j_ : Int, (IntKind.u64.wrap (wrap64 (8 * x7_1))) = j_ := ⟨_, rfl⟩
                                replace H : (if 0 ≤ (ji58) then (if t126 = (Go.bits .and .u64 a2 (IntKind.u64.wrap ((shl .u64 1 (ji58)) - 1))) then (stevedorelaw01_WordBack.l0 kj16 a0 a1 a2 (wrap64 (x7_1 + 1))) else (some false)) else (none)) = some r := by first | (rw [hji58] at H; exact H) | (simp only [hji58] at H ⊢; exact H)
                                (try rw [hji58] at A57)
                                by_cases c59 : 0 ≤ (ji58)
                                · rw [if_pos c59] at H
                                  have c59b0 := eq_true c59
                                  have c59b1 : decide (0 ≤ (ji58)) = true := decide_eq_true c59
                                  clear c59
                                  obtain ⟨ji60, hji60⟩ : ∃ j_ : Int, (shl .u64 1 (ji58)) = j_ := ⟨_, rfl⟩
                                  replace H : (if t126 = (Go.bits .and .u64 a2 (IntKind.u64.wrap ((ji60) - 1))) then (stevedorelaw01_WordBack.l0 kj16 a0 a1 a2 (wrap64 (x7_1 + 1))) else (some false)) = some r := by first | (rw [hji60] at H; exact H) | (simp only [hji60] at H ⊢; exact H)
                                  (try rw [hji60] at A57)
                                  have hji60_ : (IntKind.u64.wrap (1 * 2 ^ min (ji58).toNat 64)) = ji60 := hji60
                                  have hji60z : (ji58) ≤ 64 → (IntKind.u64.wrap (1 * 2 ^ (ji58).toNat)) = ji60 := shl_small hji60
                                  have hji60u : (IntKind.u64.wrap (2 ^ min (ji58).toNat 64)) = ji60 := by have h_ := hji60_; rw [Int.one_mul] at h_; exact h_
                                  have hji60v : (ji58) ≤ 64 → (IntKind.u64.wrap (2 ^ (ji58).toNat)) = ji60 := fun hle_ => by have h_ := hji60z hle_; rw [Int.one_mul] at h_; exact h_
                                  by_cases c61 : t126 = (Go.bits .and .u64 a2 (IntKind.u64.wrap ((ji60) - 1)))
                                  · rw [if_pos c61] at H
                                    have c61b0 : (t126 == (Go.bits .and .u64 a2 (IntKind.u64.wrap ((ji60) - 1)))) = true := beq_iff_eq.mpr c61
                                    have c61b1 : (t126 != (Go.bits .and .u64 a2 (IntKind.u64.wrap ((ji60) - 1)))) = false := bne_eq_false_iff_eq.mpr c61
                                    clear c61
                                    have H' := Aside0.mk H
                                    clear H
                                    go_wp2_with (first | (go_at_call 11; (with_reducible refine (word_Six.calls kj16 t116 a1 t126 t127 _ A57.out).mono ?_); rintro e w62 ⟨rfl, hb⟩; have n0_ := Aside0.mk (below_step (by repeat (first | (with_reducible first | exact HB.out | apply below_alloc | apply pw_below_drewN | apply below_drew1) | exact HB.out)) hb); clear HB; have HB := n0_; clear n0_; (try clear hb); (try clear hb2); (try clear hk); (try clear hi)))
                                    repeat (go_quiet (first | (go_at_call 11; (with_reducible refine (word_Six.calls kj16 t116 a1 t126 t127 _ A57.out).mono ?_); rintro e w62 ⟨rfl, hb⟩; have n0_ := Aside0.mk (below_step (by repeat (first | (with_reducible first | exact HB.out | apply below_alloc | apply pw_below_drewN | apply below_drew1) | exact HB.out)) hb); clear HB; have HB := n0_; clear n0_; (try clear hb); (try clear hb2); (try clear hk); (try clear hi))); try go_wp2_with (first | (go_at_call 11; (with_reducible refine (word_Six.calls kj16 t116 a1 t126 t127 _ A57.out).mono ?_); rintro e w62 ⟨rfl, hb⟩; have n0_ := Aside0.mk (below_step (by repeat (first | (with_reducible first | exact HB.out | apply below_alloc | apply pw_below_drewN | apply below_drew1) | exact HB.out)) hb); clear HB; have HB := n0_; clear n0_; (try clear hb); (try clear hb2); (try clear hk); (try clear hi))))
                                    go_roundg kj16
                                    case measure => have := HK1.out; have := HJ9.out; have := HJ16.out; omega
                                    case rel => exact ⟨(wrap64 (x7_1 + 1)), (by first | rfl | (simp; done) | (simp [*]; done)), H', ⟨by have := HK1.out; have := HJ9.out; have := HJ16.out; omega⟩, ⟨by repeat (first | (with_reducible first | exact HB.out | apply below_alloc | apply pw_below_drewN | apply below_drew1) | exact HB.out)⟩⟩
                                  · rw [if_neg c61] at H
                                    have c61b0 : (t126 == (Go.bits .and .u64 a2 (IntKind.u64.wrap ((ji60) - 1)))) = false := beq_eq_false_iff_ne.mpr c61
                                    have c61b1 : (t126 != (Go.bits .and .u64 a2 (IntKind.u64.wrap ((ji60) - 1)))) = true := bne_iff_ne.mpr c61
                                    obtain rfl := Option.some.inj H
                                    go_wp2_with (first | (go_at_call 11; (with_reducible refine (word_Six.calls kj16 t116 a1 t126 t127 _ A57.out).mono ?_); rintro e w63 ⟨rfl, hb⟩; have n0_ := Aside0.mk (below_step (by repeat (first | (with_reducible first | exact HB.out | apply below_alloc | apply pw_below_drewN | apply below_drew1) | exact HB.out)) hb); clear HB; have HB := n0_; clear n0_; (try clear hb); (try clear hb2); (try clear hk); (try clear hi)))
                                    repeat (go_quiet (first | (go_at_call 11; (with_reducible refine (word_Six.calls kj16 t116 a1 t126 t127 _ A57.out).mono ?_); rintro e w63 ⟨rfl, hb⟩; have n0_ := Aside0.mk (below_step (by repeat (first | (with_reducible first | exact HB.out | apply below_alloc | apply pw_below_drewN | apply below_drew1) | exact HB.out)) hb); clear HB; have HB := n0_; clear n0_; (try clear hb); (try clear hb2); (try clear hk); (try clear hi))); try go_wp2_with (first | (go_at_call 11; (with_reducible refine (word_Six.calls kj16 t116 a1 t126 t127 _ A57.out).mono ?_); rintro e w63 ⟨rfl, hb⟩; have n0_ := Aside0.mk (below_step (by repeat (first | (with_reducible first | exact HB.out | apply below_alloc | apply pw_below_drewN | apply below_drew1) | exact HB.out)) hb); clear HB; have HB := n0_; clear n0_; (try clear hb); (try clear hb2); (try clear hk); (try clear hi))))
                                    go_ret
                                    exact ⟨by first | rfl | (simp [errW_none, errW_some] <;> rfl) | (simp only [← hji58, ← hji60]; first | rfl | (simp [errW_none, errW_some] <;> rfl)) | (simp [*, errW_none, errW_some] <;> rfl), by repeat (first | (with_reducible first | exact HB.out | apply below_alloc | apply pw_below_drewN | apply below_drew1) | exact HB.out)⟩
                                · rw [if_neg c59] at H
                                  exact absurd H (by simp)
                              · rw [if_neg c56] at H
                                have c56b0 : (x7_1 == 6) = false := beq_eq_false_iff_ne.mpr c56
                                have c56b1 : (x7_1 != 6) = true := bne_iff_ne.mpr c56
                                have H' := Aside0.mk H
                                clear H
                                go_wp2
                                repeat (go_quiet (fail); try go_wp2)
                                go_roundg kj16
                                case measure => have := HK1.out; have := HJ9.out; have := HJ16.out; omega
                                case rel => exact ⟨(wrap64 (x7_1 + 1)), (by first | rfl | (simp; done) | (simp [*]; done)), H', ⟨by have := HK1.out; have := HJ9.out; have := HJ16.out; omega⟩, ⟨by repeat (first | (with_reducible first | exact HB.out | apply below_alloc | apply pw_below_drewN | apply below_drew1) | exact HB.out)⟩⟩
                · rw [if_neg c15] at H
                  have c15b0 : (t117 == 0) = false := beq_eq_false_iff_ne.mpr c15
                  have c15b1 : (t117 != 0) = true := bne_iff_ne.mpr c15
                  have H' := Aside0.mk H
                  clear H
                  go_wp2
                  repeat (go_quiet (fail); try go_wp2)
                  go_roundg kj9
                  case measure => have := HK1.out; have := HJ9.out; omega
                  case rel => exact ⟨(wrap64 (x7_1 + 1)), (by first | rfl | (simp; done) | (simp [*]; done)), H', ⟨by have := HK1.out; have := HJ9.out; omega⟩, ⟨by repeat (first | (with_reducible first | exact HB.out | apply below_alloc | apply pw_below_drewN | apply below_drew1) | exact HB.out)⟩⟩
        · rw [if_neg c7] at H
          have c7b0 : decide (x7_1 ≤ 6) = false := decide_eq_false c7
          clear c7
          replace H := Option.bind_eq_some_iff.mp H
          obtain ⟨t114, A640, H⟩ := H
          replace H : (some t114) = some r := H
          have A64 := Aside0.mk A640
          clear A640
          obtain rfl := Option.some.inj H
          go_wp2_with (first | (go_at_call 6; (with_reducible refine (stevedorelaw01_alive.calls  t114 _ A64.out).mono ?_); rintro e w65 ⟨rfl, hb⟩; have n0_ := Aside0.mk (below_step (by repeat (first | (with_reducible first | exact HB.out | apply below_alloc | apply pw_below_drewN | apply below_drew1) | exact HB.out)) hb); clear HB; have HB := n0_; clear n0_; (try clear hb); (try clear hb2); (try clear hk); (try clear hi)))
          repeat (go_quiet (first | (go_at_call 6; (with_reducible refine (stevedorelaw01_alive.calls  t114 _ A64.out).mono ?_); rintro e w65 ⟨rfl, hb⟩; have n0_ := Aside0.mk (below_step (by repeat (first | (with_reducible first | exact HB.out | apply below_alloc | apply pw_below_drewN | apply below_drew1) | exact HB.out)) hb); clear HB; have HB := n0_; clear n0_; (try clear hb); (try clear hb2); (try clear hk); (try clear hi))); try go_wp2_with (first | (go_at_call 6; (with_reducible refine (stevedorelaw01_alive.calls  t114 _ A64.out).mono ?_); rintro e w65 ⟨rfl, hb⟩; have n0_ := Aside0.mk (below_step (by repeat (first | (with_reducible first | exact HB.out | apply below_alloc | apply pw_below_drewN | apply below_drew1) | exact HB.out)) hb); clear HB; have HB := n0_; clear n0_; (try clear hb); (try clear hb2); (try clear hk); (try clear hi))))
          go_ret
          exact ⟨by first | rfl | (simp [errW_none, errW_some] <;> rfl) | (simp [*, errW_none, errW_some] <;> rfl), by repeat (first | (with_reducible first | exact HB.out | apply below_alloc | apply pw_below_drewN | apply below_drew1) | exact HB.out)⟩

/-- THE ONE PURE STATEMENT of stevedorelaw01_WordBack: yours. -/
def stevedorelaw01_WordBack.Pure : Prop := ∀ (a0 : ByteArray) (a1 : Int) (a2 : Int), a0.size ≤ 140737488351232 → (Lit.int .i64 a1).wf = true → (Lit.int .u64 a2).wf = true → ∃ k, stevedorelaw01_WordBack.f k a0 a1 a2 = some true
theorem stevedorelaw01_WordBack.walk (P : stevedorelaw01_WordBack.Pure) (a0 : ByteArray) (a1 : Int) (a2 : Int) (w : World) (w0 : a0.size ≤ 140737488351232) (w1 : (Lit.int .i64 a1).wf = true) (w2 : (Lit.int .u64 a2).wf = true) :
    Calls Try.prog 4 #[.string a0, .int .i64 a1, .int .u64 a2] w fun e w' => e = .returned (.bool true) ∧ Below w.heap.size w w' := by
  obtain ⟨k, h⟩ := P a0 a1 a2 w0 w1 w2
  refine (stevedorelaw01_WordBack.calls k a0 a1 a2 true w h).mono ?_
  rintro e w' ⟨rfl, hd⟩
  exact ⟨rfl, hd⟩

end Go.Proofs.Ytpieabhpgefbnaa.PWordBack
