-- Laid by a program of this session: the print tool's way, with this session's own walks of some functions laid in.
import Derived.Test.YtpieabhpgefbnaaPWordJoinsx0
import Derived.Test.YtpieabhpgefbnaaPWordJoinsx1
namespace Go.Proofs.Ytpieabhpgefbnaa.PWordJoins
open Go.RowKit Go.Proofs.YtpieabhpgefbnaaW.PrintWords Go.Proofs.YtpieabhpgefbnaaW.PrintLast Go.Proofs.YtpieabhpgefbnaaW.PrintMore
attribute [local go_sem] Int.emod_add_emod Int.add_emod_emod Int.emod_sub_emod Int.sub_emod_emod max2_int min2_int max_two min_two max_three min_three max_four min_four   -- for this text's walks alone
set_option linter.unusedVariables false
set_option linter.unusedSimpArgs false

/-! ### word_Set: function 17 -/
def word_Set.f (k : Nat) (a0 : ByteArray) (a1 : Int) (a2 : ByteArray) : Option (ByteArray × Int) := (word_Text.f k a0 a1 (a2.size : Int)).bind fun bt111 => (if bt111.2 = 0 then (if 0 ≤ a1 then (if a1 ≤ (a0.size : Int) then (if (a0.extract 0 (a1 : Int).toNat).size + a2.size ≤ 9223372036854775807 then (if 0 ≤ (wrap64 (a1 + (a2.size : Int))) then (if (wrap64 (a1 + (a2.size : Int))) ≤ (a0.size : Int) then (if ((a0.extract 0 (a1 : Int).toNat) ++ a2).size + (a0.extract ((wrap64 (a1 + (a2.size : Int))) : Int).toNat a0.size).size ≤ 9223372036854775807 then (some (((a0.extract 0 (a1 : Int).toNat) ++ a2) ++ (a0.extract ((wrap64 (a1 + (a2.size : Int))) : Int).toNat a0.size), 0)) else (none)) else (none)) else (none)) else (none)) else (none)) else (none)) else (some ((⟨#[]⟩ : ByteArray), bt111.2)))
theorem word_Set.mono : ∀ a0 a1 a2 k, LeO (word_Set.f k a0 a1 a2) (word_Set.f (k + 1) a0 a1 a2) := by
  intro a0 a1 a2 k
  unfold word_Set.f
  repeat' first
      | (with_reducible exact word_Text.mono _ _ _ _)
      | (with_reducible exact LeO.refl _)
      | (with_reducible exact LeO.none _)
      | (with_reducible refine LeO.ite ?_ ?_)
      | (with_reducible refine LeO.bind ?_ (fun _ => ?_))
      | exact word_Text.mono _ _ _ _
      | exact LeO.none _
      | refine LeO.ite ?_ ?_
      | refine LeO.bind ?_ (fun _ => ?_)
set_option maxHeartbeats 8000000 in
set_option maxRecDepth 100000 in
theorem word_Set.calls (k : Nat) (a0 : ByteArray) (a1 : Int) (a2 : ByteArray) (r1 : ByteArray) (r2 : Int) (w : World) (h : word_Set.f k a0 a1 a2 = some (r1, r2)) :
    Calls Try.prog 17 #[.string a0, .int .i64 a1, .string a2] w fun e w' => e = .returned (.tuple #[.string r1, .int .i64 r2]) ∧ Drawn0 w w' := by
  have H : ((word_Text.f k a0 a1 (a2.size : Int)).bind fun bt111 => (if bt111.2 = 0 then (if 0 ≤ a1 then (if a1 ≤ (a0.size : Int) then (if (a0.extract 0 (a1 : Int).toNat).size + a2.size ≤ 9223372036854775807 then (if 0 ≤ (wrap64 (a1 + (a2.size : Int))) then (if (wrap64 (a1 + (a2.size : Int))) ≤ (a0.size : Int) then (if ((a0.extract 0 (a1 : Int).toNat) ++ a2).size + (a0.extract ((wrap64 (a1 + (a2.size : Int))) : Int).toNat a0.size).size ≤ 9223372036854775807 then (some (((a0.extract 0 (a1 : Int).toNat) ++ a2) ++ (a0.extract ((wrap64 (a1 + (a2.size : Int))) : Int).toNat a0.size), 0)) else (none)) else (none)) else (none)) else (none)) else (none)) else (none)) else (some ((⟨#[]⟩ : ByteArray), bt111.2)))) = some (r1, r2) := h
  clear h
  replace H := Option.bind_eq_some_iff.mp H
  obtain ⟨⟨t111, t112⟩, A40, H⟩ := H
  replace H : (if t112 = 0 then (if 0 ≤ a1 then (if a1 ≤ (a0.size : Int) then (if (a0.extract 0 (a1 : Int).toNat).size + a2.size ≤ 9223372036854775807 then (if 0 ≤ (wrap64 (a1 + (a2.size : Int))) then (if (wrap64 (a1 + (a2.size : Int))) ≤ (a0.size : Int) then (if ((a0.extract 0 (a1 : Int).toNat) ++ a2).size + (a0.extract ((wrap64 (a1 + (a2.size : Int))) : Int).toNat a0.size).size ≤ 9223372036854775807 then (some (((a0.extract 0 (a1 : Int).toNat) ++ a2) ++ (a0.extract ((wrap64 (a1 + (a2.size : Int))) : Int).toNat a0.size), 0)) else (none)) else (none)) else (none)) else (none)) else (none)) else (none)) else (some ((⟨#[]⟩ : ByteArray), t112))) = some (r1, r2) := H
  have A4 := Aside0.mk A40
  clear A40
  by_cases c5 : t112 = 0
  · rw [if_pos c5] at H
    have c5b0 : (t112 == 0) = true := beq_iff_eq.mpr c5
    have c5b1 : (t112 != 0) = false := bne_eq_false_iff_eq.mpr c5
    clear c5
    by_cases c6 : 0 ≤ a1
    · rw [if_pos c6] at H
      have c6b0 := eq_true c6
      have c6b1 : decide (0 ≤ a1) = true := decide_eq_true c6
      clear c6
      by_cases c7 : a1 ≤ (a0.size : Int)
      · rw [if_pos c7] at H
        have c7b0 := eq_true c7
        have c7b1 : decide (a1 ≤ (a0.size : Int)) = true := decide_eq_true c7
        clear c7
        by_cases c8 : (a0.extract 0 (a1 : Int).toNat).size + a2.size ≤ 9223372036854775807
        · rw [if_pos c8] at H
          have c8b0 := eq_true c8
          have c8b1 : decide ((a0.extract 0 (a1 : Int).toNat).size + a2.size ≤ 9223372036854775807) = true := decide_eq_true c8
          try have c8b2 : (9223372036854775807 < (a0.extract 0 (a1 : Int).toNat).size + a2.size) = False := eq_false (Nat.not_lt.2 c8)
          obtain ⟨ji9, hji9⟩ : ∃ j_ : Int, (wrap64 (a1 + (a2.size : Int))) = j_ := ⟨_, rfl⟩
          replace H : (if 0 ≤ (ji9) then (if (ji9) ≤ (a0.size : Int) then (if ((a0.extract 0 (a1 : Int).toNat) ++ a2).size + (a0.extract ((ji9) : Int).toNat a0.size).size ≤ 9223372036854775807 then (some (((a0.extract 0 (a1 : Int).toNat) ++ a2) ++ (a0.extract ((ji9) : Int).toNat a0.size), 0)) else (none)) else (none)) else (none)) = some (r1, r2) := by first | (rw [hji9] at H; exact H) | (simp only [hji9] at H ⊢; exact H)
          (try rw [hji9] at A4)
          have hji9w : (IntKind.i64.wrap (a1 + (a2.size : Int))) = ji9 := (i64_w _).trans hji9
          by_cases c10 : 0 ≤ (ji9)
          · rw [if_pos c10] at H
            have c10b0 := eq_true c10
            have c10b1 : decide (0 ≤ (ji9)) = true := decide_eq_true c10
            clear c10
            by_cases c11 : (ji9) ≤ (a0.size : Int)
            · rw [if_pos c11] at H
              have c11b0 := eq_true c11
              have c11b1 : decide ((ji9) ≤ (a0.size : Int)) = true := decide_eq_true c11
              clear c11
              by_cases c12 : ((a0.extract 0 (a1 : Int).toNat) ++ a2).size + (a0.extract ((ji9) : Int).toNat a0.size).size ≤ 9223372036854775807
              · rw [if_pos c12] at H
                have c12b0 := eq_true c12
                have c12b1 : decide (((a0.extract 0 (a1 : Int).toNat) ++ a2).size + (a0.extract ((ji9) : Int).toNat a0.size).size ≤ 9223372036854775807) = true := decide_eq_true c12
                try have c12b2 : (9223372036854775807 < ((a0.extract 0 (a1 : Int).toNat) ++ a2).size + (a0.extract ((ji9) : Int).toNat a0.size).size) = False := eq_false (Nat.not_lt.2 c12)
                simp only [Option.some.injEq, Prod.mk.injEq] at H
                obtain ⟨rfl, rfl⟩ := H
                go_enter Try.func17, Try.ntmps17
                go_wp2_with (first | (go_at_call 12; (with_reducible refine (word_Text.calls k a0 a1 (a2.size : Int) t111 t112 _ A4.out).mono ?_); rintro e w' ⟨rfl, ⟨nd, rfl⟩⟩; (try first | exact ⟨rfl, _, World.drewN_drewN _ _ _⟩ | exact ⟨rfl, _, Eq.trans (World.drewN_drewN _ _ _) (congrArg (World.drewN _) (Nat.add_assoc _ _ _))⟩)))
                repeat (go_quiet (first | (go_at_call 12; (with_reducible refine (word_Text.calls k a0 a1 (a2.size : Int) t111 t112 _ A4.out).mono ?_); rintro e w' ⟨rfl, ⟨nd, rfl⟩⟩; (try first | exact ⟨rfl, _, World.drewN_drewN _ _ _⟩ | exact ⟨rfl, _, Eq.trans (World.drewN_drewN _ _ _) (congrArg (World.drewN _) (Nat.add_assoc _ _ _))⟩))); try go_wp2_with (first | (go_at_call 12; (with_reducible refine (word_Text.calls k a0 a1 (a2.size : Int) t111 t112 _ A4.out).mono ?_); rintro e w' ⟨rfl, ⟨nd, rfl⟩⟩; (try first | exact ⟨rfl, _, World.drewN_drewN _ _ _⟩ | exact ⟨rfl, _, Eq.trans (World.drewN_drewN _ _ _) (congrArg (World.drewN _) (Nat.add_assoc _ _ _))⟩))))
                go_ret2
                exact ⟨by first | rfl | (simp; done) | (simp only [← hji9] <;> (first | rfl | simp)) | (simp [*]; done), by repeat (first | exact Drawn0.refl _ | apply Drawn0.step)⟩
              · rw [if_neg c12] at H
                exact absurd H (by simp)
            · rw [if_neg c11] at H
              exact absurd H (by simp)
          · rw [if_neg c10] at H
            exact absurd H (by simp)
        · rw [if_neg c8] at H
          exact absurd H (by simp)
      · rw [if_neg c7] at H
        exact absurd H (by simp)
    · rw [if_neg c6] at H
      exact absurd H (by simp)
  · rw [if_neg c5] at H
    have c5b0 : (t112 == 0) = false := beq_eq_false_iff_ne.mpr c5
    have c5b1 : (t112 != 0) = true := bne_iff_ne.mpr c5
    simp only [Option.some.injEq, Prod.mk.injEq] at H
    obtain ⟨rfl, rfl⟩ := H
    go_enter Try.func17, Try.ntmps17
    go_wp2_with (first | (go_at_call 12; (with_reducible refine (word_Text.calls k a0 a1 (a2.size : Int) t111 t112 _ A4.out).mono ?_); rintro e w' ⟨rfl, ⟨nd, rfl⟩⟩; (try first | exact ⟨rfl, _, World.drewN_drewN _ _ _⟩ | exact ⟨rfl, _, Eq.trans (World.drewN_drewN _ _ _) (congrArg (World.drewN _) (Nat.add_assoc _ _ _))⟩)))
    repeat (go_quiet (first | (go_at_call 12; (with_reducible refine (word_Text.calls k a0 a1 (a2.size : Int) t111 t112 _ A4.out).mono ?_); rintro e w' ⟨rfl, ⟨nd, rfl⟩⟩; (try first | exact ⟨rfl, _, World.drewN_drewN _ _ _⟩ | exact ⟨rfl, _, Eq.trans (World.drewN_drewN _ _ _) (congrArg (World.drewN _) (Nat.add_assoc _ _ _))⟩))); try go_wp2_with (first | (go_at_call 12; (with_reducible refine (word_Text.calls k a0 a1 (a2.size : Int) t111 t112 _ A4.out).mono ?_); rintro e w' ⟨rfl, ⟨nd, rfl⟩⟩; (try first | exact ⟨rfl, _, World.drewN_drewN _ _ _⟩ | exact ⟨rfl, _, Eq.trans (World.drewN_drewN _ _ _) (congrArg (World.drewN _) (Nat.add_assoc _ _ _))⟩))))
    go_ret2
    exact ⟨by first | rfl | (simp; done) | (simp [*]; done), by repeat (first | exact Drawn0.refl _ | apply Drawn0.step)⟩

/-! ### stevedorelaw01_alive: function 6 -/
-- HAND making needs=stevedore/word.Of needs=stevedore/word.Two needs=stevedore/word.Set needs=stevedore/word.Text needs=stevedore/word.Rest needs=stevedore/word.Byte needs=stevedore/word.Four needs=stevedore/word.Six
def stevedorelaw01_alive.f : Option Bool := some true
set_option maxHeartbeats 4000000 in
set_option maxRecDepth 100000 in
theorem stevedorelaw01_alive.calls (r : Bool) (w : World) (h : stevedorelaw01_alive.f = some r) :
    Calls Try.prog 6 #[] w fun e w' => e = .returned (.bool r) ∧ Below w.heap.size w w' := by
  obtain rfl : true = r := Option.some.inj h
  clear h
  have HB := Aside0.mk (Below.refl w.heap.size w)
  go_enter Try.func6, Try.ntmps6
  go_wp2_with fail
  refine (word_Of.calls 258 2 (⟨#[1, 2]⟩ : ByteArray) _ (by decide +kernel)).mono ?_
  rintro e w' ⟨rfl, hb⟩
  have HB2 := Aside0.mk (below_step (by repeat (first | exact HB.out | apply pw_below_drewN)) hb)
  clear hb
  clear HB
  have HB := HB2
  clear HB2
  go_wp2_with fail
  refine (word_Two.calls 9 (⟨#[1, 2]⟩ : ByteArray) 0 258 0 _ (by decide +kernel)).mono ?_
  rintro e w' ⟨rfl, hb⟩
  have HB2 := Aside0.mk (below_step (by repeat (first | exact HB.out | apply pw_below_drewN)) hb)
  clear hb
  clear HB
  have HB := HB2
  clear HB2
  go_wp2_with fail
  refine (word_Two.calls 9 (⟨#[1, 2]⟩ : ByteArray) 1 0 10 _ (by decide +kernel)).mono ?_
  rintro e w' ⟨rfl, hb⟩
  have HB2 := Aside0.mk (below_step (by repeat (first | exact HB.out | apply pw_below_drewN)) hb)
  clear hb
  clear HB
  have HB := HB2
  clear HB2
  go_wp2_with fail
  refine (word_Set.calls 9 (⟨#[97, 98, 99, 100]⟩ : ByteArray) 1 (⟨#[120, 121]⟩ : ByteArray) (⟨#[97, 120, 121, 100]⟩ : ByteArray) 0 _ (by decide +kernel)).mono ?_
  rintro e w' ⟨rfl, ⟨nd, rfl⟩⟩
  go_wp2_with fail
  refine (word_Text.calls 9 (⟨#[97, 98, 99]⟩ : ByteArray) 1 2 (⟨#[98, 99]⟩ : ByteArray) 0 _ (by decide +kernel)).mono ?_
  rintro e w' ⟨rfl, ⟨nd, rfl⟩⟩
  go_wp2_with fail
  refine (word_Rest.calls 9 (⟨#[97, 98, 99]⟩ : ByteArray) 3 (⟨#[]⟩ : ByteArray) 0 _ (by decide +kernel)).mono ?_
  rintro e w' ⟨rfl, ⟨nd, rfl⟩⟩
  go_wp2_with fail
  refine (word_Rest.calls 9 (⟨#[97, 98, 99]⟩ : ByteArray) 4 (⟨#[]⟩ : ByteArray) 10 _ (by decide +kernel)).mono ?_
  rintro e w' ⟨rfl, ⟨nd, rfl⟩⟩
  go_wp2_with fail
  refine (word_Byte.calls 9 (⟨#[97]⟩ : ByteArray) 0 97 0 _ (by decide +kernel)).mono ?_
  rintro e w' ⟨rfl, hb⟩
  have HB2 := Aside0.mk (below_step (by repeat (first | exact HB.out | apply pw_below_drewN)) hb)
  clear hb
  clear HB
  have HB := HB2
  clear HB2
  go_wp2_with fail
  refine (word_Four.calls 9 (⟨#[0, 1, 2, 3]⟩ : ByteArray) 0 66051 0 _ (by decide +kernel)).mono ?_
  rintro e w' ⟨rfl, hb⟩
  have HB2 := Aside0.mk (below_step (by repeat (first | exact HB.out | apply pw_below_drewN)) hb)
  clear hb
  clear HB
  have HB := HB2
  clear HB2
  go_wp2_with fail
  refine (word_Six.calls 9 (⟨#[0, 0, 0, 0, 1, 0]⟩ : ByteArray) 0 256 0 _ (by decide +kernel)).mono ?_
  rintro e w' ⟨rfl, hb⟩
  have HB2 := Aside0.mk (below_step (by repeat (first | exact HB.out | apply pw_below_drewN)) hb)
  clear hb
  clear HB
  have HB := HB2
  clear HB2
  go_wp2
  go_ret
  exact ⟨by first | rfl | (simp; done), by repeat (first | exact HB.out | apply pw_below_drewN)⟩

/-! ### stevedorelaw01_cut: function 18 -/
def stevedorelaw01_cut.f (a0 : ByteArray) (a1 : Int) : Option (ByteArray) := if a1 > (a0.size : Int) then (some a0) else (if 0 ≤ a1 then (if a1 ≤ (a0.size : Int) then (some (a0.extract 0 (a1 : Int).toNat)) else (none)) else (none))
set_option maxHeartbeats 8000000 in
set_option maxRecDepth 100000 in
theorem stevedorelaw01_cut.calls (a0 : ByteArray) (a1 : Int) (r : ByteArray) (w : World) (h : stevedorelaw01_cut.f a0 a1 = some r) :
    Calls Try.prog 18 #[.string a0, .int .i64 a1] w fun e w' => e = .returned (.string r) ∧ Drawn0 w w' := by
  have H : (if a1 > (a0.size : Int) then (some a0) else (if 0 ≤ a1 then (if a1 ≤ (a0.size : Int) then (some (a0.extract 0 (a1 : Int).toNat)) else (none)) else (none))) = some r := h
  clear h
  by_cases c3 : a1 > (a0.size : Int)
  · rw [if_pos c3] at H
    have c3b0 : decide ((a0.size : Int) < a1) = true := decide_eq_true c3
    clear c3
    obtain rfl := Option.some.inj H
    go_enter Try.func18, Try.ntmps18
    go_wp2
    go_ret
    exact ⟨by first | rfl | (simp; done) | (simp [*]; done), by repeat (first | exact Drawn0.refl _ | apply Drawn0.step)⟩
  · rw [if_neg c3] at H
    have c3b0 : decide ((a0.size : Int) < a1) = false := decide_eq_false c3
    clear c3
    by_cases c4 : 0 ≤ a1
    · rw [if_pos c4] at H
      have c4b0 := eq_true c4
      have c4b1 : decide (0 ≤ a1) = true := decide_eq_true c4
      clear c4
      by_cases c5 : a1 ≤ (a0.size : Int)
      · rw [if_pos c5] at H
        have c5b0 := eq_true c5
        have c5b1 : decide (a1 ≤ (a0.size : Int)) = true := decide_eq_true c5
        clear c5
        obtain rfl := Option.some.inj H
        go_enter Try.func18, Try.ntmps18
        go_wp2
        go_ret
        exact ⟨by first | rfl | (simp; done) | (simp [*]; done), by repeat (first | exact Drawn0.refl _ | apply Drawn0.step)⟩
      · rw [if_neg c5] at H
        exact absurd H (by simp)
    · rw [if_neg c4] at H
      exact absurd H (by simp)

/-! ### stevedorelaw01_WordJoins: function 5 -/
mutual
def stevedorelaw01_WordJoins.j0 : Nat → ByteArray → ByteArray → Int → Bool → Option (Bool)
  | 0, _, _, _, _ => none
  | k + 1, x0, x1, x2, x23 => if x23 = true then ((stevedorelaw01_alive.f).bind fun t113 => (some t113)) else ((word_Four.f k x1 (wrap64 (x2))).bind fun bt114 => (if x0.size + x1.size ≤ 9223372036854775807 then ((word_Four.f k (x0 ++ x1) (wrap64 ((x0.size : Int) + (wrap64 (x2))))).bind fun bt116 => ((word_Text.f k x1 0 (wrap64 (x2))).bind fun bt118 => ((word_Rest.f k x1 (wrap64 (x2))).bind fun bt120 => (if bt114.1 = bt116.1 then (if bt114.2 = bt116.2 then (if ((bt118.2 == 0) != (decide ((wrap64 (x2)) ≤ (x1.size : Int)))) = true then (stevedorelaw01_WordJoins.j1 k x1 bt114.1 bt118.1 bt118.2 bt120.1 true) else (stevedorelaw01_WordJoins.j1 k x1 bt114.1 bt118.1 bt118.2 bt120.1 (bt118.2 != bt120.2))) else (stevedorelaw01_WordJoins.j1 k x1 bt114.1 bt118.1 bt118.2 bt120.1 true)) else (stevedorelaw01_WordJoins.j1 k x1 bt114.1 bt118.1 bt118.2 bt120.1 true))))) else (none)))
def stevedorelaw01_WordJoins.j1 : Nat → ByteArray → Int → ByteArray → Int → ByteArray → Bool → Option (Bool)
  | 0, _, _, _, _, _, _ => none
  | k + 1, x1, x8, x12, x13, x14, x77 => if x77 = true then (some false) else (if x13 = 0 then (if x12.size + x14.size ≤ 9223372036854775807 then (if (x12 ++ x14).toList = x1.toList then ((word_Of.f (IntKind.u64.wrap (x8)) 4).bind fun t122 => ((stevedorelaw01_cut.f t122 2).bind fun t123 => ((word_Of.f ((IntKind.u64.wrap (x8)) / 65536) 2).bind fun t124 => (if t123.toList = t124.toList then ((stevedorelaw01_alive.f).bind fun t125 => (some t125)) else (some false))))) else (some false)) else (none)) else ((word_Of.f (IntKind.u64.wrap (x8)) 4).bind fun t126 => ((stevedorelaw01_cut.f t126 2).bind fun t127 => ((word_Of.f ((IntKind.u64.wrap (x8)) / 65536) 2).bind fun t128 => (if t127.toList = t128.toList then ((stevedorelaw01_alive.f).bind fun t129 => (some t129)) else (some false))))))
end
def stevedorelaw01_WordJoins.f (k : Nat) (a0 : ByteArray) (a1 : ByteArray) (a2 : Int) : Option (Bool) := if (a0.size : Int) > 4096 then (stevedorelaw01_WordJoins.j0 k a0 a1 a2 true) else (stevedorelaw01_WordJoins.j0 k a0 a1 a2 (decide ((a1.size : Int) > 4096)))
theorem stevedorelaw01_WordJoins.mono_l : ∀ k, (∀ y0 y1 y2 y3, LeO (stevedorelaw01_WordJoins.j0 k y0 y1 y2 y3) (stevedorelaw01_WordJoins.j0 (k + 1) y0 y1 y2 y3)) ∧ (∀ y0 y1 y2 y3 y4 y5, LeO (stevedorelaw01_WordJoins.j1 k y0 y1 y2 y3 y4 y5) (stevedorelaw01_WordJoins.j1 (k + 1) y0 y1 y2 y3 y4 y5))
  | 0 => ⟨fun _ _ _ _ r h => by simp [stevedorelaw01_WordJoins.j0] at h, fun _ _ _ _ _ _ r h => by simp [stevedorelaw01_WordJoins.j1] at h⟩
  | k + 1 => by
    obtain ⟨ih0, ih1⟩ := stevedorelaw01_WordJoins.mono_l k
    refine ⟨?_, ?_⟩
    · intro y0 y1 y2 y3
      unfold stevedorelaw01_WordJoins.j0
      repeat' first
      | (with_reducible exact ih0 _ _ _ _)
      | (with_reducible exact ih1 _ _ _ _ _ _)
      | (with_reducible exact word_Four.mono _ _ _)
      | (with_reducible exact word_Rest.mono _ _ _)
      | (with_reducible exact word_Text.mono _ _ _ _)
      | (with_reducible exact LeO.refl _)
      | (with_reducible exact LeO.none _)
      | (with_reducible refine LeO.ite ?_ ?_)
      | (with_reducible refine LeO.bind ?_ (fun _ => ?_))
      | exact ih0 _ _ _ _
      | exact ih1 _ _ _ _ _ _
      | exact word_Four.mono _ _ _
      | exact word_Rest.mono _ _ _
      | exact word_Text.mono _ _ _ _
      | exact LeO.none _
      | refine LeO.ite ?_ ?_
      | refine LeO.bind ?_ (fun _ => ?_)
    · intro y0 y1 y2 y3 y4 y5
      unfold stevedorelaw01_WordJoins.j1
      repeat' first
      | (with_reducible exact ih0 _ _ _ _)
      | (with_reducible exact ih1 _ _ _ _ _ _)
      | (with_reducible exact word_Four.mono _ _ _)
      | (with_reducible exact word_Rest.mono _ _ _)
      | (with_reducible exact word_Text.mono _ _ _ _)
      | (with_reducible exact LeO.refl _)
      | (with_reducible exact LeO.none _)
      | (with_reducible refine LeO.ite ?_ ?_)
      | (with_reducible refine LeO.bind ?_ (fun _ => ?_))
      | exact ih0 _ _ _ _
      | exact ih1 _ _ _ _ _ _
      | exact word_Four.mono _ _ _
      | exact word_Rest.mono _ _ _
      | exact word_Text.mono _ _ _ _
      | exact LeO.none _
      | refine LeO.ite ?_ ?_
      | refine LeO.bind ?_ (fun _ => ?_)
theorem stevedorelaw01_WordJoins.mono : ∀ a0 a1 a2 k, LeO (stevedorelaw01_WordJoins.f k a0 a1 a2) (stevedorelaw01_WordJoins.f (k + 1) a0 a1 a2) := by
  intro a0 a1 a2 k
  obtain ⟨ih0, ih1⟩ := stevedorelaw01_WordJoins.mono_l k
  unfold stevedorelaw01_WordJoins.f
  repeat' first
      | (with_reducible exact ih0 _ _ _ _)
      | (with_reducible exact ih1 _ _ _ _ _ _)
      | (with_reducible exact word_Four.mono _ _ _)
      | (with_reducible exact word_Rest.mono _ _ _)
      | (with_reducible exact word_Text.mono _ _ _ _)
      | (with_reducible exact LeO.refl _)
      | (with_reducible exact LeO.none _)
      | (with_reducible refine LeO.ite ?_ ?_)
      | (with_reducible refine LeO.bind ?_ (fun _ => ?_))
      | exact ih0 _ _ _ _
      | exact ih1 _ _ _ _ _ _
      | exact word_Four.mono _ _ _
      | exact word_Rest.mono _ _ _
      | exact word_Text.mono _ _ _ _
      | exact LeO.none _
      | refine LeO.ite ?_ ?_
      | refine LeO.bind ?_ (fun _ => ?_)
set_option maxHeartbeats 8000000 in
set_option maxRecDepth 100000 in
theorem stevedorelaw01_WordJoins.calls (k : Nat) (a0 : ByteArray) (a1 : ByteArray) (a2 : Int) (r : Bool) (w : World) (h : stevedorelaw01_WordJoins.f k a0 a1 a2 = some r) :
    Calls Try.prog 5 #[.string a0, .string a1, .int .u8 a2] w fun e w' => e = .returned (.bool r) ∧ Below w.heap.size w w' := by
  have HB := Aside0.mk (Below.refl w.heap.size w)
  have H : (if (a0.size : Int) > 4096 then (stevedorelaw01_WordJoins.j0 k a0 a1 a2 true) else (stevedorelaw01_WordJoins.j0 k a0 a1 a2 (decide ((a1.size : Int) > 4096)))) = some r := h
  clear h
  have HC4 := Aside0.mk H
  clear H
  go_enter Try.func5, Try.ntmps5
  go_upto_region 1 with (fail)
  go_cut [23] (fun v23 wc => ∃ (kq : Nat) (x23_3 : Bool), v23 = .bool x23_3 ∧ Aside0 (stevedorelaw01_WordJoins.j0 kq a0 a1 a2 x23_3 = some r) ∧ Aside0 (kq ≤ k) ∧ Aside0 (Below w.heap.size w wc))
  case first =>
    have H := HC4.out
    clear HC4
    by_cases c5 : (a0.size : Int) > 4096
    · rw [if_pos c5] at H
      have c5b0 : decide (4096 < (a0.size : Int)) = true := decide_eq_true c5
      have c5b1 : decide (4096 < a0.size) = true := decide_eq_true (by omega)
      clear c5
      (first | rw [c5b0] | (simp only [i64_w, i32_w]; rw [c5b0]) | skip)
      have H' := Aside0.mk H
      clear H
      go_wp2
      go_meet
      case rel => exact ⟨_, (true), (by first | rfl | (simp; done) | (simp [*]; done)), H', ⟨by first | omega | exact Nat.le_refl _⟩, ⟨by repeat (first | (with_reducible first | exact HB.out | apply below_alloc | apply pw_below_drewN | apply below_drew1) | exact HB.out)⟩⟩
    · rw [if_neg c5] at H
      have c5b0 : decide (4096 < (a0.size : Int)) = false := decide_eq_false c5
      have c5b1 : decide (4096 < a0.size) = false := decide_eq_false (by omega)
      clear c5
      (first | rw [c5b0] | (simp only [i64_w, i32_w]; rw [c5b0]) | skip)
      have H' := Aside0.mk H
      clear H
      go_wp2
      go_meet
      case rel => exact ⟨_, (decide ((a1.size : Int) > 4096)), (by first | rfl | (simp; done) | (simp [*]; done)), H', ⟨by first | omega | exact Nat.le_refl _⟩, ⟨by repeat (first | (with_reducible first | exact HB.out | apply below_alloc | apply pw_below_drewN | apply below_drew1) | exact HB.out)⟩⟩
  case rest =>
    clear HC4
    try clear p2
    try clear c5
    try clear c5b0
    try clear c5b1
    obtain ⟨kq, x23_3, rfl, HA, HJ3, HB⟩ := hcut
    cases kq with
    | zero => exact absurd HA.out (by simp [stevedorelaw01_WordJoins.j0])
    | succ kj3 =>
      have H := HA.out
      clear HA
      simp only [stevedorelaw01_WordJoins.j0] at H
      by_cases c6 : x23_3 = true
      · subst c6
        have H1 : ((stevedorelaw01_alive.f).bind fun t113 => (some t113)) = some r := by rw [if_pos rfl] at H; exact H
        clear H
        have H := H1
        clear H1
        replace H := Option.bind_eq_some_iff.mp H
        obtain ⟨t113, A70, H⟩ := H
        replace H : (some t113) = some r := H
        have A7 := Aside0.mk A70
        clear A70
        obtain rfl := Option.some.inj H
        go_wp2_with (first | ((with_reducible refine gate_callee (f := 6) rfl ?_); refine goesL_ (some 24) rfl rfl Try.func6 (by kernel_rfl) rfl #[] rfl (by (try simp only [List.map_toArray, List.map_cons, List.map_nil]); first | done | rfl | (simp only [List.length_drop, List.length_take]; rfl)) ?_; (with_reducible refine (stevedorelaw01_alive.calls  t113 _ A7.out).mono ?_); rintro e w8 ⟨rfl, hb⟩; refine ⟨_, rfl, ?_⟩; have n0_ := Aside0.mk (below_step (by repeat (first | (with_reducible first | exact HB.out | apply below_alloc | apply pw_below_drewN | apply below_drew1) | exact HB.out)) hb); clear HB; have HB := n0_; clear n0_; (try clear hb); (try clear hb2); (try clear hk); (try clear hi)))
        go_ret
        exact ⟨by first | rfl | (simp [errW_none, errW_some] <;> rfl) | (simp [*, errW_none, errW_some] <;> rfl), by repeat (first | (with_reducible first | exact HB.out | apply below_alloc | apply pw_below_drewN | apply below_drew1) | exact HB.out)⟩
      · replace c6 := Bool.eq_false_iff.mpr c6
        subst c6
        have H1 : ((word_Four.f kj3 a1 (wrap64 (a2))).bind fun bt114 => (if a0.size + a1.size ≤ 9223372036854775807 then ((word_Four.f kj3 (a0 ++ a1) (wrap64 ((a0.size : Int) + (wrap64 (a2))))).bind fun bt116 => ((word_Text.f kj3 a1 0 (wrap64 (a2))).bind fun bt118 => ((word_Rest.f kj3 a1 (wrap64 (a2))).bind fun bt120 => (if bt114.1 = bt116.1 then (if bt114.2 = bt116.2 then (if ((bt118.2 == 0) != (decide ((wrap64 (a2)) ≤ (a1.size : Int)))) = true then (stevedorelaw01_WordJoins.j1 kj3 a1 bt114.1 bt118.1 bt118.2 bt120.1 true) else (stevedorelaw01_WordJoins.j1 kj3 a1 bt114.1 bt118.1 bt118.2 bt120.1 (bt118.2 != bt120.2))) else (stevedorelaw01_WordJoins.j1 kj3 a1 bt114.1 bt118.1 bt118.2 bt120.1 true)) else (stevedorelaw01_WordJoins.j1 kj3 a1 bt114.1 bt118.1 bt118.2 bt120.1 true))))) else (none))) = some r := by rw [if_neg (show ¬ (false = true) by decide)] at H; exact H
        clear H
        have H := H1
        clear H1
        replace H := Option.bind_eq_some_iff.mp H
        obtain ⟨⟨t114, t115⟩, A90, H⟩ := H
        replace H : (if a0.size + a1.size ≤ 9223372036854775807 then ((word_Four.f kj3 (a0 ++ a1) (wrap64 ((a0.size : Int) + (wrap64 (a2))))).bind fun bt116 => ((word_Text.f kj3 a1 0 (wrap64 (a2))).bind fun bt118 => ((word_Rest.f kj3 a1 (wrap64 (a2))).bind fun bt120 => (if t114 = bt116.1 then (if t115 = bt116.2 then (if ((bt118.2 == 0) != (decide ((wrap64 (a2)) ≤ (a1.size : Int)))) = true then (stevedorelaw01_WordJoins.j1 kj3 a1 t114 bt118.1 bt118.2 bt120.1 true) else (stevedorelaw01_WordJoins.j1 kj3 a1 t114 bt118.1 bt118.2 bt120.1 (bt118.2 != bt120.2))) else (stevedorelaw01_WordJoins.j1 kj3 a1 t114 bt118.1 bt118.2 bt120.1 true)) else (stevedorelaw01_WordJoins.j1 kj3 a1 t114 bt118.1 bt118.2 bt120.1 true))))) else (none)) = some r := H
        have A9 := Aside0.mk A90
        clear A90
        by_cases c10 : a0.size + a1.size ≤ 9223372036854775807
        · rw [if_pos c10] at H
          have c10b0 := eq_true c10
          have c10b1 : decide (a0.size + a1.size ≤ 9223372036854775807) = true := decide_eq_true c10
          try have c10b2 : (9223372036854775807 < a0.size + a1.size) = False := eq_false (Nat.not_lt.2 c10)
          replace H := Option.bind_eq_some_iff.mp H
          obtain ⟨⟨t116, t117⟩, A110, H⟩ := H
          replace H : ((word_Text.f kj3 a1 0 (wrap64 (a2))).bind fun bt118 => ((word_Rest.f kj3 a1 (wrap64 (a2))).bind fun bt120 => (if t114 = t116 then (if t115 = t117 then (if ((bt118.2 == 0) != (decide ((wrap64 (a2)) ≤ (a1.size : Int)))) = true then (stevedorelaw01_WordJoins.j1 kj3 a1 t114 bt118.1 bt118.2 bt120.1 true) else (stevedorelaw01_WordJoins.j1 kj3 a1 t114 bt118.1 bt118.2 bt120.1 (bt118.2 != bt120.2))) else (stevedorelaw01_WordJoins.j1 kj3 a1 t114 bt118.1 bt118.2 bt120.1 true)) else (stevedorelaw01_WordJoins.j1 kj3 a1 t114 bt118.1 bt118.2 bt120.1 true)))) = some r := H
          have A11 := Aside0.mk A110
          clear A110
          replace H := Option.bind_eq_some_iff.mp H
          obtain ⟨⟨t118, t119⟩, A120, H⟩ := H
          replace H : ((word_Rest.f kj3 a1 (wrap64 (a2))).bind fun bt120 => (if t114 = t116 then (if t115 = t117 then (if ((t119 == 0) != (decide ((wrap64 (a2)) ≤ (a1.size : Int)))) = true then (stevedorelaw01_WordJoins.j1 kj3 a1 t114 t118 t119 bt120.1 true) else (stevedorelaw01_WordJoins.j1 kj3 a1 t114 t118 t119 bt120.1 (t119 != bt120.2))) else (stevedorelaw01_WordJoins.j1 kj3 a1 t114 t118 t119 bt120.1 true)) else (stevedorelaw01_WordJoins.j1 kj3 a1 t114 t118 t119 bt120.1 true))) = some r := H
          have A12 := Aside0.mk A120
          clear A120
          replace H := Option.bind_eq_some_iff.mp H
          obtain ⟨⟨t120, t121⟩, A130, H⟩ := H
          replace H : (if t114 = t116 then (if t115 = t117 then (if ((t119 == 0) != (decide ((wrap64 (a2)) ≤ (a1.size : Int)))) = true then (stevedorelaw01_WordJoins.j1 kj3 a1 t114 t118 t119 t120 true) else (stevedorelaw01_WordJoins.j1 kj3 a1 t114 t118 t119 t120 (t119 != t121))) else (stevedorelaw01_WordJoins.j1 kj3 a1 t114 t118 t119 t120 true)) else (stevedorelaw01_WordJoins.j1 kj3 a1 t114 t118 t119 t120 true)) = some r := H
          have A13 := Aside0.mk A130
          clear A130
          have HC14 := Aside0.mk H
          clear H
          go_upto_region 8 with (first | ((with_reducible refine gate_callee (f := 10) rfl ?_); refine goesL_ (some 30) rfl rfl Try.func10 (by kernel_rfl) rfl #[.string a1, .int .i64 (wrap64 (a2))] rfl (by (try simp only [List.map_toArray, List.map_cons, List.map_nil]); first | done | rfl | (simp only [List.length_drop, List.length_take]; rfl)) ?_; (with_reducible refine (word_Four.calls kj3 a1 (wrap64 (a2)) t114 t115 _ A9.out).mono ?_); rintro e w15 ⟨rfl, hb⟩; refine ⟨_, rfl, ?_⟩; have n0_ := Aside0.mk (below_step (by repeat (first | (with_reducible first | exact HB.out | apply below_alloc | apply pw_below_drewN | apply below_drew1) | exact HB.out)) hb); clear HB; have HB := n0_; clear n0_; (try clear hb); (try clear hb2); (try clear hk); (try clear hi)) | ((with_reducible refine gate_callee (f := 10) rfl ?_); refine goesL_ (some 41) rfl rfl Try.func10 (by kernel_rfl) rfl #[.string (a0 ++ a1), .int .i64 (wrap64 ((a0.size : Int) + (wrap64 (a2))))] rfl (by (try simp only [List.map_toArray, List.map_cons, List.map_nil]); first | done | rfl | (simp only [List.length_drop, List.length_take]; rfl)) ?_; (with_reducible refine (word_Four.calls kj3 (a0 ++ a1) (wrap64 ((a0.size : Int) + (wrap64 (a2)))) t116 t117 _ A11.out).mono ?_); rintro e w16 ⟨rfl, hb⟩; refine ⟨_, rfl, ?_⟩; have n0_ := Aside0.mk (below_step (by repeat (first | (with_reducible first | exact HB.out | apply below_alloc | apply pw_below_drewN | apply below_drew1) | exact HB.out)) hb); clear HB; have HB := n0_; clear n0_; (try clear hb); (try clear hb2); (try clear hk); (try clear hi)) | ((with_reducible refine gate_callee (f := 12) rfl ?_); refine goesL_ (some 47) rfl rfl Try.func12 (by kernel_rfl) rfl #[.string a1, .int .i64 0, .int .i64 (wrap64 (a2))] rfl (by (try simp only [List.map_toArray, List.map_cons, List.map_nil]); first | done | rfl | (simp only [List.length_drop, List.length_take]; rfl)) ?_; (with_reducible refine (word_Text.calls kj3 a1 0 (wrap64 (a2)) t118 t119 _ A12.out).mono ?_); rintro e w' ⟨rfl, ⟨nd, rfl⟩⟩; refine ⟨_, rfl, ?_⟩) | ((with_reducible refine gate_callee (f := 14) rfl ?_); refine goesL_ (some 53) rfl rfl Try.func14 (by kernel_rfl) rfl #[.string a1, .int .i64 (wrap64 (a2))] rfl (by (try simp only [List.map_toArray, List.map_cons, List.map_nil]); first | done | rfl | (simp only [List.length_drop, List.length_take]; rfl)) ?_; (with_reducible refine (word_Rest.calls kj3 a1 (wrap64 (a2)) t120 t121 _ A13.out).mono ?_); rintro e w' ⟨rfl, ⟨nd, rfl⟩⟩; refine ⟨_, rfl, ?_⟩))
          (try simp only [Act.put, List.setIfInBounds_toArray, List.set_cons_zero, List.set_cons_succ])
          go_cut [77] (fun v77 wc => ∃ (kq : Nat) (x77_13 : Bool), v77 = .bool x77_13 ∧ Aside0 (stevedorelaw01_WordJoins.j1 kq a1 t114 t118 t119 t120 x77_13 = some r) ∧ Aside0 (kq ≤ kj3) ∧ Aside0 (Below w.heap.size w wc))
          case first =>
            have H := HC14.out
            clear HC14
            by_cases c17 : t114 = t116
            · rw [if_pos c17] at H
              have c17b0 : (t114 == t116) = true := beq_iff_eq.mpr c17
              have c17b1 : (t114 != t116) = false := bne_eq_false_iff_eq.mpr c17
              clear c17
              (first | rw [c17b0] | (simp only [i64_w, i32_w]; rw [c17b0]) | skip)
              by_cases c18 : t115 = t117
              · rw [if_pos c18] at H
                have c18b0 : (t115 == t117) = true := beq_iff_eq.mpr c18
                have c18b1 : (t115 != t117) = false := bne_eq_false_iff_eq.mpr c18
                clear c18
                by_cases c19 : ((t119 == 0) != (decide ((wrap64 (a2)) ≤ (a1.size : Int)))) = true
                · rw [if_pos c19] at H
                  have c19b0 : ((t119 == 0) != (decide ((wrap64 (a2)) ≤ (a1.size : Int)))) = true := c19
                  (try (have c19b1 : decide ((t119 == 0) = (decide ((wrap64 (a2)) ≤ (a1.size : Int)))) = false := by simpa using c19))
                  (try (have c19b2 : ((t119 == 0) == (decide ((wrap64 (a2)) ≤ (a1.size : Int)))) = false := by simpa using c19))
                  (try (have c19b3 : ¬ ((t119 == 0) = (decide ((wrap64 (a2)) ≤ (a1.size : Int)))) := by simpa using c19))
                  clear c19
                  have H' := Aside0.mk H
                  clear H
                  go_wp2
                  go_meet
                  case rel => exact ⟨_, (true), (by first | rfl | (simp; done) | (simp [*]; done)), H', ⟨by have := HJ3.out; first | omega | exact Nat.le_refl _⟩, ⟨by repeat (first | (with_reducible first | exact HB.out | apply below_alloc | apply pw_below_drewN | apply below_drew1) | exact HB.out)⟩⟩
                · rw [if_neg c19] at H
                  have c19b0 : ((t119 == 0) != (decide ((wrap64 (a2)) ≤ (a1.size : Int)))) = false := by simpa using c19
                  (try (have c19b1 : decide ((t119 == 0) = (decide ((wrap64 (a2)) ≤ (a1.size : Int)))) = true := by simpa using c19))
                  (try (have c19b2 : ((t119 == 0) == (decide ((wrap64 (a2)) ≤ (a1.size : Int)))) = true := by simpa using c19))
                  clear c19
                  have H' := Aside0.mk H
                  clear H
                  go_wp2
                  go_meet
                  case rel => exact ⟨_, ((t119 != t121)), (by first | rfl | (simp; done) | (simp [*]; done)), H', ⟨by have := HJ3.out; first | omega | exact Nat.le_refl _⟩, ⟨by repeat (first | (with_reducible first | exact HB.out | apply below_alloc | apply pw_below_drewN | apply below_drew1) | exact HB.out)⟩⟩
              · rw [if_neg c18] at H
                have c18b0 : (t115 == t117) = false := beq_eq_false_iff_ne.mpr c18
                have c18b1 : (t115 != t117) = true := bne_iff_ne.mpr c18
                have H' := Aside0.mk H
                clear H
                go_wp2
                go_meet
                case rel => exact ⟨_, (true), (by first | rfl | (simp; done) | (simp [*]; done)), H', ⟨by have := HJ3.out; first | omega | exact Nat.le_refl _⟩, ⟨by repeat (first | (with_reducible first | exact HB.out | apply below_alloc | apply pw_below_drewN | apply below_drew1) | exact HB.out)⟩⟩
            · rw [if_neg c17] at H
              have c17b0 : (t114 == t116) = false := beq_eq_false_iff_ne.mpr c17
              have c17b1 : (t114 != t116) = true := bne_iff_ne.mpr c17
              (first | rw [c17b0] | (simp only [i64_w, i32_w]; rw [c17b0]) | skip)
              have H' := Aside0.mk H
              clear H
              go_wp2
              go_meet
              case rel => exact ⟨_, (true), (by first | rfl | (simp; done) | (simp [*]; done)), H', ⟨by have := HJ3.out; first | omega | exact Nat.le_refl _⟩, ⟨by repeat (first | (with_reducible first | exact HB.out | apply below_alloc | apply pw_below_drewN | apply below_drew1) | exact HB.out)⟩⟩
          case rest =>
            clear HC14
            try clear c1
            try clear p2
            try clear c5
            try clear c5b0
            try clear c5b1
            try clear c6
            try clear p6
            try clear c10
            try clear c10b0
            try clear c10b1
            try clear c10b2
            try clear c12
            try clear c14
            try clear c17
            try clear c17b0
            try clear c17b1
            try clear c18
            try clear c18b0
            try clear c18b1
            try clear c19
            try clear c19b0
            try clear c19b1
            try clear c19b2
            try clear p2
            obtain ⟨kq, x77_13, rfl, HA, HJ13, HB⟩ := hcut
            cases kq with
            | zero => exact absurd HA.out (by simp [stevedorelaw01_WordJoins.j1])
            | succ kj13 =>
              have H := HA.out
              clear HA
              simp only [stevedorelaw01_WordJoins.j1] at H
              by_cases c20 : x77_13 = true
              · subst c20
                have H1 : (some false) = some r := by rw [if_pos rfl] at H; exact H
                clear H
                have H := H1
                clear H1
                obtain rfl := Option.some.inj H
                go_wp2
                go_ret
                exact ⟨by first | rfl | (simp [errW_none, errW_some] <;> rfl) | (simp [*, errW_none, errW_some] <;> rfl), by repeat (first | (with_reducible first | exact HB.out | apply below_alloc | apply pw_below_drewN | apply below_drew1) | exact HB.out)⟩
              · replace c20 := Bool.eq_false_iff.mpr c20
                subst c20
                have H1 : (if t119 = 0 then (if t118.size + t120.size ≤ 9223372036854775807 then (if (t118 ++ t120).toList = a1.toList then ((word_Of.f (IntKind.u64.wrap (t114)) 4).bind fun t122 => ((stevedorelaw01_cut.f t122 2).bind fun t123 => ((word_Of.f ((IntKind.u64.wrap (t114)) / 65536) 2).bind fun t124 => (if t123.toList = t124.toList then ((stevedorelaw01_alive.f).bind fun t125 => (some t125)) else (some false))))) else (some false)) else (none)) else ((word_Of.f (IntKind.u64.wrap (t114)) 4).bind fun t126 => ((stevedorelaw01_cut.f t126 2).bind fun t127 => ((word_Of.f ((IntKind.u64.wrap (t114)) / 65536) 2).bind fun t128 => (if t127.toList = t128.toList then ((stevedorelaw01_alive.f).bind fun t129 => (some t129)) else (some false)))))) = some r := by rw [if_neg (show ¬ (false = true) by decide)] at H; exact H
                clear H
                have H := H1
                clear H1
                by_cases c21 : t119 = 0
                · rw [if_pos c21] at H
                  have c21b0 : (t119 == 0) = true := beq_iff_eq.mpr c21
                  have c21b1 : (t119 != 0) = false := bne_eq_false_iff_eq.mpr c21
                  clear c21
                  by_cases c22 : t118.size + t120.size ≤ 9223372036854775807
                  · rw [if_pos c22] at H
                    have c22b0 := eq_true c22
                    have c22b1 : decide (t118.size + t120.size ≤ 9223372036854775807) = true := decide_eq_true c22
                    try have c22b2 : (9223372036854775807 < t118.size + t120.size) = False := eq_false (Nat.not_lt.2 c22)
                    by_cases c23 : (t118 ++ t120).toList = a1.toList
                    · rw [if_pos c23] at H
                      have c23b0 : ((t118 ++ t120).toList == a1.toList) = true := beq_iff_eq.mpr c23
                      have c23b1 : ((t118 ++ t120).toList != a1.toList) = false := bne_eq_false_iff_eq.mpr c23
                      clear c23
                      replace H := Option.bind_eq_some_iff.mp H
                      obtain ⟨t122, A240, H⟩ := H
                      replace H : ((stevedorelaw01_cut.f t122 2).bind fun t123 => ((word_Of.f ((IntKind.u64.wrap (t114)) / 65536) 2).bind fun t124 => (if t123.toList = t124.toList then ((stevedorelaw01_alive.f).bind fun t125 => (some t125)) else (some false)))) = some r := H
                      have A24 := Aside0.mk A240
                      clear A240
                      replace H := Option.bind_eq_some_iff.mp H
                      obtain ⟨t123, A250, H⟩ := H
                      replace H : ((word_Of.f ((IntKind.u64.wrap (t114)) / 65536) 2).bind fun t124 => (if t123.toList = t124.toList then ((stevedorelaw01_alive.f).bind fun t125 => (some t125)) else (some false))) = some r := H
                      have A25 := Aside0.mk A250
                      clear A250
                      replace H := Option.bind_eq_some_iff.mp H
                      obtain ⟨t124, A260, H⟩ := H
                      replace H : (if t123.toList = t124.toList then ((stevedorelaw01_alive.f).bind fun t125 => (some t125)) else (some false)) = some r := H
                      have A26 := Aside0.mk A260
                      clear A260
                      by_cases c27 : t123.toList = t124.toList
                      · rw [if_pos c27] at H
                        have c27b0 : (t123.toList == t124.toList) = true := beq_iff_eq.mpr c27
                        have c27b1 : (t123.toList != t124.toList) = false := bne_eq_false_iff_eq.mpr c27
                        clear c27
                        replace H := Option.bind_eq_some_iff.mp H
                        obtain ⟨t125, A280, H⟩ := H
                        replace H : (some t125) = some r := H
                        have A28 := Aside0.mk A280
                        clear A280
                        obtain rfl := Option.some.inj H
                        go_wp2_with (first | (go_at_call 16; (with_reducible refine (word_Of.calls (IntKind.u64.wrap (t114)) 4 t122 _ A24.out).mono ?_); rintro e w29 ⟨rfl, hb⟩; have n0_ := Aside0.mk (below_step (by repeat (first | (with_reducible first | exact HB.out | apply below_alloc | apply pw_below_drewN | apply below_drew1) | exact HB.out)) hb); clear HB; have HB := n0_; clear n0_; (try clear hb); (try clear hb2); (try clear hk); (try clear hi)) | (go_at_call 18; (with_reducible refine (stevedorelaw01_cut.calls t122 2 t123 _ A25.out).mono ?_); rintro e w' ⟨rfl, ⟨nd, rfl⟩⟩) | (go_at_call 16; (with_reducible refine (word_Of.calls ((IntKind.u64.wrap (t114)) / 65536) 2 t124 _ A26.out).mono ?_); rintro e w30 ⟨rfl, hb⟩; have n0_ := Aside0.mk (below_step (by repeat (first | (with_reducible first | exact HB.out | apply below_alloc | apply pw_below_drewN | apply below_drew1) | exact HB.out)) hb); clear HB; have HB := n0_; clear n0_; (try clear hb); (try clear hb2); (try clear hk); (try clear hi)) | (go_at_call 6; (with_reducible refine (stevedorelaw01_alive.calls  t125 _ A28.out).mono ?_); rintro e w31 ⟨rfl, hb⟩; have n0_ := Aside0.mk (below_step (by repeat (first | (with_reducible first | exact HB.out | apply below_alloc | apply pw_below_drewN | apply below_drew1) | exact HB.out)) hb); clear HB; have HB := n0_; clear n0_; (try clear hb); (try clear hb2); (try clear hk); (try clear hi)))
                        go_ret
                        exact ⟨by first | rfl | (simp [errW_none, errW_some] <;> rfl) | (simp [*, errW_none, errW_some] <;> rfl), by repeat (first | (with_reducible first | exact HB.out | apply below_alloc | apply pw_below_drewN | apply below_drew1) | exact HB.out)⟩
                      · rw [if_neg c27] at H
                        have c27b0 : (t123.toList == t124.toList) = false := beq_eq_false_iff_ne.mpr c27
                        have c27b1 : (t123.toList != t124.toList) = true := bne_iff_ne.mpr c27
                        obtain rfl := Option.some.inj H
                        go_wp2_with (first | (go_at_call 16; (with_reducible refine (word_Of.calls (IntKind.u64.wrap (t114)) 4 t122 _ A24.out).mono ?_); rintro e w32 ⟨rfl, hb⟩; have n0_ := Aside0.mk (below_step (by repeat (first | (with_reducible first | exact HB.out | apply below_alloc | apply pw_below_drewN | apply below_drew1) | exact HB.out)) hb); clear HB; have HB := n0_; clear n0_; (try clear hb); (try clear hb2); (try clear hk); (try clear hi)) | (go_at_call 18; (with_reducible refine (stevedorelaw01_cut.calls t122 2 t123 _ A25.out).mono ?_); rintro e w' ⟨rfl, ⟨nd, rfl⟩⟩) | (go_at_call 16; (with_reducible refine (word_Of.calls ((IntKind.u64.wrap (t114)) / 65536) 2 t124 _ A26.out).mono ?_); rintro e w33 ⟨rfl, hb⟩; have n0_ := Aside0.mk (below_step (by repeat (first | (with_reducible first | exact HB.out | apply below_alloc | apply pw_below_drewN | apply below_drew1) | exact HB.out)) hb); clear HB; have HB := n0_; clear n0_; (try clear hb); (try clear hb2); (try clear hk); (try clear hi)))
                        go_ret
                        exact ⟨by first | rfl | (simp [errW_none, errW_some] <;> rfl) | (simp [*, errW_none, errW_some] <;> rfl), by repeat (first | (with_reducible first | exact HB.out | apply below_alloc | apply pw_below_drewN | apply below_drew1) | exact HB.out)⟩
                    · rw [if_neg c23] at H
                      have c23b0 : ((t118 ++ t120).toList == a1.toList) = false := beq_eq_false_iff_ne.mpr c23
                      have c23b1 : ((t118 ++ t120).toList != a1.toList) = true := bne_iff_ne.mpr c23
                      obtain rfl := Option.some.inj H
                      go_wp2
                      go_ret
                      exact ⟨by first | rfl | (simp [errW_none, errW_some] <;> rfl) | (simp [*, errW_none, errW_some] <;> rfl), by repeat (first | (with_reducible first | exact HB.out | apply below_alloc | apply pw_below_drewN | apply below_drew1) | exact HB.out)⟩
                  · rw [if_neg c22] at H
                    exact absurd H (by simp)
                · rw [if_neg c21] at H
                  have c21b0 : (t119 == 0) = false := beq_eq_false_iff_ne.mpr c21
                  have c21b1 : (t119 != 0) = true := bne_iff_ne.mpr c21
                  replace H := Option.bind_eq_some_iff.mp H
                  obtain ⟨t126, A340, H⟩ := H
                  replace H : ((stevedorelaw01_cut.f t126 2).bind fun t127 => ((word_Of.f ((IntKind.u64.wrap (t114)) / 65536) 2).bind fun t128 => (if t127.toList = t128.toList then ((stevedorelaw01_alive.f).bind fun t129 => (some t129)) else (some false)))) = some r := H
                  have A34 := Aside0.mk A340
                  clear A340
                  replace H := Option.bind_eq_some_iff.mp H
                  obtain ⟨t127, A350, H⟩ := H
                  replace H : ((word_Of.f ((IntKind.u64.wrap (t114)) / 65536) 2).bind fun t128 => (if t127.toList = t128.toList then ((stevedorelaw01_alive.f).bind fun t129 => (some t129)) else (some false))) = some r := H
                  have A35 := Aside0.mk A350
                  clear A350
                  replace H := Option.bind_eq_some_iff.mp H
                  obtain ⟨t128, A360, H⟩ := H
                  replace H : (if t127.toList = t128.toList then ((stevedorelaw01_alive.f).bind fun t129 => (some t129)) else (some false)) = some r := H
                  have A36 := Aside0.mk A360
                  clear A360
                  by_cases c37 : t127.toList = t128.toList
                  · rw [if_pos c37] at H
                    have c37b0 : (t127.toList == t128.toList) = true := beq_iff_eq.mpr c37
                    have c37b1 : (t127.toList != t128.toList) = false := bne_eq_false_iff_eq.mpr c37
                    clear c37
                    replace H := Option.bind_eq_some_iff.mp H
                    obtain ⟨t129, A380, H⟩ := H
                    replace H : (some t129) = some r := H
                    have A38 := Aside0.mk A380
                    clear A380
                    obtain rfl := Option.some.inj H
                    go_wp2_with (first | (go_at_call 16; (with_reducible refine (word_Of.calls (IntKind.u64.wrap (t114)) 4 t126 _ A34.out).mono ?_); rintro e w39 ⟨rfl, hb⟩; have n0_ := Aside0.mk (below_step (by repeat (first | (with_reducible first | exact HB.out | apply below_alloc | apply pw_below_drewN | apply below_drew1) | exact HB.out)) hb); clear HB; have HB := n0_; clear n0_; (try clear hb); (try clear hb2); (try clear hk); (try clear hi)) | (go_at_call 18; (with_reducible refine (stevedorelaw01_cut.calls t126 2 t127 _ A35.out).mono ?_); rintro e w' ⟨rfl, ⟨nd, rfl⟩⟩) | (go_at_call 16; (with_reducible refine (word_Of.calls ((IntKind.u64.wrap (t114)) / 65536) 2 t128 _ A36.out).mono ?_); rintro e w40 ⟨rfl, hb⟩; have n0_ := Aside0.mk (below_step (by repeat (first | (with_reducible first | exact HB.out | apply below_alloc | apply pw_below_drewN | apply below_drew1) | exact HB.out)) hb); clear HB; have HB := n0_; clear n0_; (try clear hb); (try clear hb2); (try clear hk); (try clear hi)) | (go_at_call 6; (with_reducible refine (stevedorelaw01_alive.calls  t129 _ A38.out).mono ?_); rintro e w41 ⟨rfl, hb⟩; have n0_ := Aside0.mk (below_step (by repeat (first | (with_reducible first | exact HB.out | apply below_alloc | apply pw_below_drewN | apply below_drew1) | exact HB.out)) hb); clear HB; have HB := n0_; clear n0_; (try clear hb); (try clear hb2); (try clear hk); (try clear hi)))
                    go_ret
                    exact ⟨by first | rfl | (simp [errW_none, errW_some] <;> rfl) | (simp [*, errW_none, errW_some] <;> rfl), by repeat (first | (with_reducible first | exact HB.out | apply below_alloc | apply pw_below_drewN | apply below_drew1) | exact HB.out)⟩
                  · rw [if_neg c37] at H
                    have c37b0 : (t127.toList == t128.toList) = false := beq_eq_false_iff_ne.mpr c37
                    have c37b1 : (t127.toList != t128.toList) = true := bne_iff_ne.mpr c37
                    obtain rfl := Option.some.inj H
                    go_wp2_with (first | (go_at_call 16; (with_reducible refine (word_Of.calls (IntKind.u64.wrap (t114)) 4 t126 _ A34.out).mono ?_); rintro e w42 ⟨rfl, hb⟩; have n0_ := Aside0.mk (below_step (by repeat (first | (with_reducible first | exact HB.out | apply below_alloc | apply pw_below_drewN | apply below_drew1) | exact HB.out)) hb); clear HB; have HB := n0_; clear n0_; (try clear hb); (try clear hb2); (try clear hk); (try clear hi)) | (go_at_call 18; (with_reducible refine (stevedorelaw01_cut.calls t126 2 t127 _ A35.out).mono ?_); rintro e w' ⟨rfl, ⟨nd, rfl⟩⟩) | (go_at_call 16; (with_reducible refine (word_Of.calls ((IntKind.u64.wrap (t114)) / 65536) 2 t128 _ A36.out).mono ?_); rintro e w43 ⟨rfl, hb⟩; have n0_ := Aside0.mk (below_step (by repeat (first | (with_reducible first | exact HB.out | apply below_alloc | apply pw_below_drewN | apply below_drew1) | exact HB.out)) hb); clear HB; have HB := n0_; clear n0_; (try clear hb); (try clear hb2); (try clear hk); (try clear hi)))
                    go_ret
                    exact ⟨by first | rfl | (simp [errW_none, errW_some] <;> rfl) | (simp [*, errW_none, errW_some] <;> rfl), by repeat (first | (with_reducible first | exact HB.out | apply below_alloc | apply pw_below_drewN | apply below_drew1) | exact HB.out)⟩
        · rw [if_neg c10] at H
          exact absurd H (by simp)

/-- THE ONE PURE STATEMENT of stevedorelaw01_WordJoins: yours. -/
def stevedorelaw01_WordJoins.Pure : Prop := ∀ (a0 : ByteArray) (a1 : ByteArray) (a2 : Int), a0.size ≤ 140737488351232 → a1.size ≤ 140737488351232 → (Lit.int .u8 a2).wf = true → ∃ k, stevedorelaw01_WordJoins.f k a0 a1 a2 = some true
theorem stevedorelaw01_WordJoins.walk (P : stevedorelaw01_WordJoins.Pure) (a0 : ByteArray) (a1 : ByteArray) (a2 : Int) (w : World) (w0 : a0.size ≤ 140737488351232) (w1 : a1.size ≤ 140737488351232) (w2 : (Lit.int .u8 a2).wf = true) :
    Calls Try.prog 5 #[.string a0, .string a1, .int .u8 a2] w fun e w' => e = .returned (.bool true) ∧ Below w.heap.size w w' := by
  obtain ⟨k, h⟩ := P a0 a1 a2 w0 w1 w2
  refine (stevedorelaw01_WordJoins.calls k a0 a1 a2 true w h).mono ?_
  rintro e w' ⟨rfl, hd⟩
  exact ⟨rfl, hd⟩

end Go.Proofs.Ytpieabhpgefbnaa.PWordJoins
