-- Laid by a program of this session: the print tool's way, with this session's own walks of some functions laid in.
import Derived.Test.YtpieabhpgefbnaaPWordReadsx0
import Derived.Test.YtpieabhpgefbnaaPWordReadsx1
import Derived.Test.YtpieabhpgefbnaaPWordReadsx2
namespace Go.Proofs.Ytpieabhpgefbnaa.PWordReads
open Go.RowKit Go.Proofs.YtpieabhpgefbnaaW.PrintWords Go.Proofs.YtpieabhpgefbnaaW.PrintLast Go.Proofs.YtpieabhpgefbnaaW.PrintMore
attribute [local go_sem] Int.emod_add_emod Int.add_emod_emod Int.emod_sub_emod Int.sub_emod_emod max2_int min2_int max_two min_two max_three min_three max_four min_four   -- for this text's walks alone
set_option linter.unusedVariables false
set_option linter.unusedSimpArgs false

/-! ### stevedorelaw01_WordReads: function 3 -/
mutual
def stevedorelaw01_WordReads.j0 : Nat → ByteArray → Int → Int → Bool → Option (Bool)
  | 0, _, _, _, _ => none
  | k + 1, x0, x1, x2, x68 => if x68 = true then (some false) else ((word_Four.f k x0 x1).bind fun bt126 => ((stevedoreref01_Num.f k x0 x1 4).bind fun bt128 => ((word_Six.f k x0 x1).bind fun bt130 => ((stevedoreref01_Num.f k x0 x1 6).bind fun bt132 => (if (IntKind.u64.wrap (bt126.1)) = bt128.1 then (if bt126.2 = bt128.2 then (if bt130.1 = bt132.1 then (stevedorelaw01_WordReads.j1 k x0 x1 x2 (bt130.2 != bt132.2)) else (stevedorelaw01_WordReads.j1 k x0 x1 x2 true)) else (stevedorelaw01_WordReads.j1 k x0 x1 x2 true)) else (stevedorelaw01_WordReads.j1 k x0 x1 x2 true))))))
def stevedorelaw01_WordReads.j1 : Nat → ByteArray → Int → Int → Bool → Option (Bool)
  | 0, _, _, _, _ => none
  | k + 1, x0, x1, x2, x111 => if x111 = true then (some false) else ((word_Text.f k x0 x1 x2).bind fun bt134 => ((stevedoreref01_Text.f k x0 x1 x2).bind fun bt136 => ((word_Rest.f k x0 x1).bind fun bt138 => ((stevedoreref01_Rest.f k x0 x1).bind fun bt140 => (if bt134.1.toList = bt136.1.toList then (if bt134.2 = bt136.2 then (if bt138.1.toList = bt140.1.toList then (if bt138.2 = bt140.2 then ((stevedorelaw01_alive.f).bind fun t142 => (some t142)) else (some false)) else (some false)) else (some false)) else (some false))))))
end
def stevedorelaw01_WordReads.f (k : Nat) (a0 : ByteArray) (a1 : Int) (a2 : Int) : Option (Bool) := if (a0.size : Int) > 4096 then ((stevedorelaw01_alive.f).bind fun t117 => (some t117)) else ((word_Byte.f k a0 a1).bind fun bt118 => ((stevedoreref01_Num.f k a0 a1 1).bind fun bt120 => ((word_Two.f k a0 a1).bind fun bt122 => ((stevedoreref01_Num.f k a0 a1 2).bind fun bt124 => (if (IntKind.u64.wrap (bt118.1)) = bt120.1 then (if bt118.2 = bt120.2 then (if (IntKind.u64.wrap (bt122.1)) = bt124.1 then (stevedorelaw01_WordReads.j0 k a0 a1 a2 (bt122.2 != bt124.2)) else (stevedorelaw01_WordReads.j0 k a0 a1 a2 true)) else (stevedorelaw01_WordReads.j0 k a0 a1 a2 true)) else (stevedorelaw01_WordReads.j0 k a0 a1 a2 true))))))
theorem stevedorelaw01_WordReads.mono_l : ∀ k, (∀ y0 y1 y2 y3, LeO (stevedorelaw01_WordReads.j0 k y0 y1 y2 y3) (stevedorelaw01_WordReads.j0 (k + 1) y0 y1 y2 y3)) ∧ (∀ y0 y1 y2 y3, LeO (stevedorelaw01_WordReads.j1 k y0 y1 y2 y3) (stevedorelaw01_WordReads.j1 (k + 1) y0 y1 y2 y3))
  | 0 => ⟨fun _ _ _ _ r h => by simp [stevedorelaw01_WordReads.j0] at h, fun _ _ _ _ r h => by simp [stevedorelaw01_WordReads.j1] at h⟩
  | k + 1 => by
    obtain ⟨ih0, ih1⟩ := stevedorelaw01_WordReads.mono_l k
    refine ⟨?_, ?_⟩
    · intro y0 y1 y2 y3
      unfold stevedorelaw01_WordReads.j0
      repeat' first
      | (with_reducible exact ih0 _ _ _ _)
      | (with_reducible exact ih1 _ _ _ _)
      | (with_reducible exact stevedoreref01_Num.mono _ _ _ _)
      | (with_reducible exact stevedoreref01_Rest.mono _ _ _)
      | (with_reducible exact stevedoreref01_Text.mono _ _ _ _)
      | (with_reducible exact word_Byte.mono _ _ _)
      | (with_reducible exact word_Four.mono _ _ _)
      | (with_reducible exact word_Rest.mono _ _ _)
      | (with_reducible exact word_Six.mono _ _ _)
      | (with_reducible exact word_Text.mono _ _ _ _)
      | (with_reducible exact word_Two.mono _ _ _)
      | (with_reducible exact LeO.refl _)
      | (with_reducible exact LeO.none _)
      | (with_reducible refine LeO.ite ?_ ?_)
      | (with_reducible refine LeO.bind ?_ (fun _ => ?_))
      | exact ih0 _ _ _ _
      | exact ih1 _ _ _ _
      | exact stevedoreref01_Num.mono _ _ _ _
      | exact stevedoreref01_Rest.mono _ _ _
      | exact stevedoreref01_Text.mono _ _ _ _
      | exact word_Byte.mono _ _ _
      | exact word_Four.mono _ _ _
      | exact word_Rest.mono _ _ _
      | exact word_Six.mono _ _ _
      | exact word_Text.mono _ _ _ _
      | exact word_Two.mono _ _ _
      | exact LeO.none _
      | refine LeO.ite ?_ ?_
      | refine LeO.bind ?_ (fun _ => ?_)
    · intro y0 y1 y2 y3
      unfold stevedorelaw01_WordReads.j1
      repeat' first
      | (with_reducible exact ih0 _ _ _ _)
      | (with_reducible exact ih1 _ _ _ _)
      | (with_reducible exact stevedoreref01_Num.mono _ _ _ _)
      | (with_reducible exact stevedoreref01_Rest.mono _ _ _)
      | (with_reducible exact stevedoreref01_Text.mono _ _ _ _)
      | (with_reducible exact word_Byte.mono _ _ _)
      | (with_reducible exact word_Four.mono _ _ _)
      | (with_reducible exact word_Rest.mono _ _ _)
      | (with_reducible exact word_Six.mono _ _ _)
      | (with_reducible exact word_Text.mono _ _ _ _)
      | (with_reducible exact word_Two.mono _ _ _)
      | (with_reducible exact LeO.refl _)
      | (with_reducible exact LeO.none _)
      | (with_reducible refine LeO.ite ?_ ?_)
      | (with_reducible refine LeO.bind ?_ (fun _ => ?_))
      | exact ih0 _ _ _ _
      | exact ih1 _ _ _ _
      | exact stevedoreref01_Num.mono _ _ _ _
      | exact stevedoreref01_Rest.mono _ _ _
      | exact stevedoreref01_Text.mono _ _ _ _
      | exact word_Byte.mono _ _ _
      | exact word_Four.mono _ _ _
      | exact word_Rest.mono _ _ _
      | exact word_Six.mono _ _ _
      | exact word_Text.mono _ _ _ _
      | exact word_Two.mono _ _ _
      | exact LeO.none _
      | refine LeO.ite ?_ ?_
      | refine LeO.bind ?_ (fun _ => ?_)
theorem stevedorelaw01_WordReads.mono : ∀ a0 a1 a2 k, LeO (stevedorelaw01_WordReads.f k a0 a1 a2) (stevedorelaw01_WordReads.f (k + 1) a0 a1 a2) := by
  intro a0 a1 a2 k
  obtain ⟨ih0, ih1⟩ := stevedorelaw01_WordReads.mono_l k
  unfold stevedorelaw01_WordReads.f
  repeat' first
      | (with_reducible exact ih0 _ _ _ _)
      | (with_reducible exact ih1 _ _ _ _)
      | (with_reducible exact stevedoreref01_Num.mono _ _ _ _)
      | (with_reducible exact stevedoreref01_Rest.mono _ _ _)
      | (with_reducible exact stevedoreref01_Text.mono _ _ _ _)
      | (with_reducible exact word_Byte.mono _ _ _)
      | (with_reducible exact word_Four.mono _ _ _)
      | (with_reducible exact word_Rest.mono _ _ _)
      | (with_reducible exact word_Six.mono _ _ _)
      | (with_reducible exact word_Text.mono _ _ _ _)
      | (with_reducible exact word_Two.mono _ _ _)
      | (with_reducible exact LeO.refl _)
      | (with_reducible exact LeO.none _)
      | (with_reducible refine LeO.ite ?_ ?_)
      | (with_reducible refine LeO.bind ?_ (fun _ => ?_))
      | exact ih0 _ _ _ _
      | exact ih1 _ _ _ _
      | exact stevedoreref01_Num.mono _ _ _ _
      | exact stevedoreref01_Rest.mono _ _ _
      | exact stevedoreref01_Text.mono _ _ _ _
      | exact word_Byte.mono _ _ _
      | exact word_Four.mono _ _ _
      | exact word_Rest.mono _ _ _
      | exact word_Six.mono _ _ _
      | exact word_Text.mono _ _ _ _
      | exact word_Two.mono _ _ _
      | exact LeO.none _
      | refine LeO.ite ?_ ?_
      | refine LeO.bind ?_ (fun _ => ?_)
set_option maxHeartbeats 8000000 in
set_option maxRecDepth 100000 in
theorem stevedorelaw01_WordReads.calls (k : Nat) (a0 : ByteArray) (a1 : Int) (a2 : Int) (r : Bool) (w : World) (h : stevedorelaw01_WordReads.f k a0 a1 a2 = some r) :
    Calls Try.prog 3 #[.string a0, .int .i64 a1, .int .i64 a2] w fun e w' => e = .returned (.bool r) ∧ Below w.heap.size w w' := by
  have HB := Aside0.mk (Below.refl w.heap.size w)
  have H : (if (a0.size : Int) > 4096 then ((stevedorelaw01_alive.f).bind fun t117 => (some t117)) else ((word_Byte.f k a0 a1).bind fun bt118 => ((stevedoreref01_Num.f k a0 a1 1).bind fun bt120 => ((word_Two.f k a0 a1).bind fun bt122 => ((stevedoreref01_Num.f k a0 a1 2).bind fun bt124 => (if (IntKind.u64.wrap (bt118.1)) = bt120.1 then (if bt118.2 = bt120.2 then (if (IntKind.u64.wrap (bt122.1)) = bt124.1 then (stevedorelaw01_WordReads.j0 k a0 a1 a2 (bt122.2 != bt124.2)) else (stevedorelaw01_WordReads.j0 k a0 a1 a2 true)) else (stevedorelaw01_WordReads.j0 k a0 a1 a2 true)) else (stevedorelaw01_WordReads.j0 k a0 a1 a2 true))))))) = some r := h
  clear h
  by_cases c4 : (a0.size : Int) > 4096
  · rw [if_pos c4] at H
    have c4b0 : decide (4096 < (a0.size : Int)) = true := decide_eq_true c4
    have c4b1 : decide (4096 < a0.size) = true := decide_eq_true (by omega)
    clear c4
    replace H := Option.bind_eq_some_iff.mp H
    obtain ⟨t117, A50, H⟩ := H
    replace H : (some t117) = some r := H
    have A5 := Aside0.mk A50
    clear A50
    obtain rfl := Option.some.inj H
    go_enter Try.func3, Try.ntmps3
    go_wp2_with (first | ((with_reducible refine gate_callee (f := 6) rfl ?_); refine goesL_ (some 24) rfl rfl Try.func6 (by kernel_rfl) rfl #[] rfl (by (try simp only [List.map_toArray, List.map_cons, List.map_nil]); first | done | rfl | (simp only [List.length_drop, List.length_take]; rfl)) ?_; (with_reducible refine (stevedorelaw01_alive.calls  t117 _ A5.out).mono ?_); rintro e w6 ⟨rfl, hb⟩; refine ⟨_, rfl, ?_⟩; have n0_ := Aside0.mk (below_step (by repeat (first | (with_reducible first | exact HB.out | apply below_alloc | apply pw_below_drewN | apply below_drew1) | exact HB.out)) hb); clear HB; have HB := n0_; clear n0_; (try clear hb); (try clear hb2); (try clear hk); (try clear hi)))
    go_ret
    exact ⟨by first | rfl | (simp [errW_none, errW_some] <;> rfl) | (simp [*, errW_none, errW_some] <;> rfl), by repeat (first | (with_reducible first | exact HB.out | apply below_alloc | apply pw_below_drewN | apply below_drew1) | exact HB.out)⟩
  · rw [if_neg c4] at H
    have c4b0 : decide (4096 < (a0.size : Int)) = false := decide_eq_false c4
    have c4b1 : decide (4096 < a0.size) = false := decide_eq_false (by omega)
    clear c4
    replace H := Option.bind_eq_some_iff.mp H
    obtain ⟨⟨t118, t119⟩, A70, H⟩ := H
    replace H : ((stevedoreref01_Num.f k a0 a1 1).bind fun bt120 => ((word_Two.f k a0 a1).bind fun bt122 => ((stevedoreref01_Num.f k a0 a1 2).bind fun bt124 => (if (IntKind.u64.wrap (t118)) = bt120.1 then (if t119 = bt120.2 then (if (IntKind.u64.wrap (bt122.1)) = bt124.1 then (stevedorelaw01_WordReads.j0 k a0 a1 a2 (bt122.2 != bt124.2)) else (stevedorelaw01_WordReads.j0 k a0 a1 a2 true)) else (stevedorelaw01_WordReads.j0 k a0 a1 a2 true)) else (stevedorelaw01_WordReads.j0 k a0 a1 a2 true))))) = some r := H
    have A7 := Aside0.mk A70
    clear A70
    replace H := Option.bind_eq_some_iff.mp H
    obtain ⟨⟨t120, t121⟩, A80, H⟩ := H
    replace H : ((word_Two.f k a0 a1).bind fun bt122 => ((stevedoreref01_Num.f k a0 a1 2).bind fun bt124 => (if (IntKind.u64.wrap (t118)) = t120 then (if t119 = t121 then (if (IntKind.u64.wrap (bt122.1)) = bt124.1 then (stevedorelaw01_WordReads.j0 k a0 a1 a2 (bt122.2 != bt124.2)) else (stevedorelaw01_WordReads.j0 k a0 a1 a2 true)) else (stevedorelaw01_WordReads.j0 k a0 a1 a2 true)) else (stevedorelaw01_WordReads.j0 k a0 a1 a2 true)))) = some r := H
    have A8 := Aside0.mk A80
    clear A80
    replace H := Option.bind_eq_some_iff.mp H
    obtain ⟨⟨t122, t123⟩, A90, H⟩ := H
    replace H : ((stevedoreref01_Num.f k a0 a1 2).bind fun bt124 => (if (IntKind.u64.wrap (t118)) = t120 then (if t119 = t121 then (if (IntKind.u64.wrap (t122)) = bt124.1 then (stevedorelaw01_WordReads.j0 k a0 a1 a2 (t123 != bt124.2)) else (stevedorelaw01_WordReads.j0 k a0 a1 a2 true)) else (stevedorelaw01_WordReads.j0 k a0 a1 a2 true)) else (stevedorelaw01_WordReads.j0 k a0 a1 a2 true))) = some r := H
    have A9 := Aside0.mk A90
    clear A90
    replace H := Option.bind_eq_some_iff.mp H
    obtain ⟨⟨t124, t125⟩, A100, H⟩ := H
    replace H : (if (IntKind.u64.wrap (t118)) = t120 then (if t119 = t121 then (if (IntKind.u64.wrap (t122)) = t124 then (stevedorelaw01_WordReads.j0 k a0 a1 a2 (t123 != t125)) else (stevedorelaw01_WordReads.j0 k a0 a1 a2 true)) else (stevedorelaw01_WordReads.j0 k a0 a1 a2 true)) else (stevedorelaw01_WordReads.j0 k a0 a1 a2 true)) = some r := H
    have A10 := Aside0.mk A100
    clear A100
    have HC11 := Aside0.mk H
    clear H
    go_enter Try.func3, Try.ntmps3
    go_upto_region 7 with (first | ((with_reducible refine gate_callee (f := 7) rfl ?_); refine goesL_ (some 28) rfl rfl Try.func7 (by kernel_rfl) rfl #[.string a0, .int .i64 a1] rfl (by (try simp only [List.map_toArray, List.map_cons, List.map_nil]); first | done | rfl | (simp only [List.length_drop, List.length_take]; rfl)) ?_; (with_reducible refine (word_Byte.calls k a0 a1 t118 t119 _ A7.out).mono ?_); rintro e w12 ⟨rfl, hb⟩; refine ⟨_, rfl, ?_⟩; have n0_ := Aside0.mk (below_step (by repeat (first | (with_reducible first | exact HB.out | apply below_alloc | apply pw_below_drewN | apply below_drew1) | exact HB.out)) hb); clear HB; have HB := n0_; clear n0_; (try clear hb); (try clear hb2); (try clear hk); (try clear hi)) | ((with_reducible refine gate_callee (f := 8) rfl ?_); refine goesL_ (some 34) rfl rfl Try.func8 (by kernel_rfl) rfl #[.string a0, .int .i64 a1, .int .i64 1] rfl (by (try simp only [List.map_toArray, List.map_cons, List.map_nil]); first | done | rfl | (simp only [List.length_drop, List.length_take]; rfl)) ?_; (with_reducible refine (stevedoreref01_Num.calls k a0 a1 1 t120 t121 _ A8.out).mono ?_); rintro e w' ⟨rfl, ⟨nd, rfl⟩⟩; refine ⟨_, rfl, ?_⟩) | ((with_reducible refine gate_callee (f := 9) rfl ?_); refine goesL_ (some 40) rfl rfl Try.func9 (by kernel_rfl) rfl #[.string a0, .int .i64 a1] rfl (by (try simp only [List.map_toArray, List.map_cons, List.map_nil]); first | done | rfl | (simp only [List.length_drop, List.length_take]; rfl)) ?_; (with_reducible refine (word_Two.calls k a0 a1 t122 t123 _ A9.out).mono ?_); rintro e w13 ⟨rfl, hb⟩; refine ⟨_, rfl, ?_⟩; have n0_ := Aside0.mk (below_step (by repeat (first | (with_reducible first | exact HB.out | apply below_alloc | apply pw_below_drewN | apply below_drew1) | exact HB.out)) hb); clear HB; have HB := n0_; clear n0_; (try clear hb); (try clear hb2); (try clear hk); (try clear hi)) | ((with_reducible refine gate_callee (f := 8) rfl ?_); refine goesL_ (some 46) rfl rfl Try.func8 (by kernel_rfl) rfl #[.string a0, .int .i64 a1, .int .i64 2] rfl (by (try simp only [List.map_toArray, List.map_cons, List.map_nil]); first | done | rfl | (simp only [List.length_drop, List.length_take]; rfl)) ?_; (with_reducible refine (stevedoreref01_Num.calls k a0 a1 2 t124 t125 _ A10.out).mono ?_); rintro e w' ⟨rfl, ⟨nd, rfl⟩⟩; refine ⟨_, rfl, ?_⟩))
    (try simp only [Act.put, List.setIfInBounds_toArray, List.set_cons_zero, List.set_cons_succ])
    go_cut [68] (fun v68 wc => ∃ (kq : Nat) (x68_10 : Bool), v68 = .bool x68_10 ∧ Aside0 (stevedorelaw01_WordReads.j0 kq a0 a1 a2 x68_10 = some r) ∧ Aside0 (kq ≤ k) ∧ Aside0 (Below w.heap.size w wc))
    case first =>
      have H := HC11.out
      clear HC11
      by_cases c14 : (IntKind.u64.wrap (t118)) = t120
      · rw [if_pos c14] at H
        have c14b0 : ((IntKind.u64.wrap (t118)) == t120) = true := beq_iff_eq.mpr c14
        have c14b1 : ((IntKind.u64.wrap (t118)) != t120) = false := bne_eq_false_iff_eq.mpr c14
        clear c14
        (first | rw [c14b0] | (simp only [i64_w, i32_w]; rw [c14b0]) | skip)
        by_cases c15 : t119 = t121
        · rw [if_pos c15] at H
          have c15b0 : (t119 == t121) = true := beq_iff_eq.mpr c15
          have c15b1 : (t119 != t121) = false := bne_eq_false_iff_eq.mpr c15
          clear c15
          by_cases c16 : (IntKind.u64.wrap (t122)) = t124
          · rw [if_pos c16] at H
            have c16b0 : ((IntKind.u64.wrap (t122)) == t124) = true := beq_iff_eq.mpr c16
            have c16b1 : ((IntKind.u64.wrap (t122)) != t124) = false := bne_eq_false_iff_eq.mpr c16
            clear c16
            have H' := Aside0.mk H
            clear H
            go_wp2
            go_meet
            case rel => exact ⟨_, ((t123 != t125)), (by first | rfl | (simp; done) | (simp [*]; done)), H', ⟨by first | omega | exact Nat.le_refl _⟩, ⟨by repeat (first | (with_reducible first | exact HB.out | apply below_alloc | apply pw_below_drewN | apply below_drew1) | exact HB.out)⟩⟩
          · rw [if_neg c16] at H
            have c16b0 : ((IntKind.u64.wrap (t122)) == t124) = false := beq_eq_false_iff_ne.mpr c16
            have c16b1 : ((IntKind.u64.wrap (t122)) != t124) = true := bne_iff_ne.mpr c16
            have H' := Aside0.mk H
            clear H
            go_wp2
            go_meet
            case rel => exact ⟨_, (true), (by first | rfl | (simp; done) | (simp [*]; done)), H', ⟨by first | omega | exact Nat.le_refl _⟩, ⟨by repeat (first | (with_reducible first | exact HB.out | apply below_alloc | apply pw_below_drewN | apply below_drew1) | exact HB.out)⟩⟩
        · rw [if_neg c15] at H
          have c15b0 : (t119 == t121) = false := beq_eq_false_iff_ne.mpr c15
          have c15b1 : (t119 != t121) = true := bne_iff_ne.mpr c15
          have H' := Aside0.mk H
          clear H
          go_wp2
          go_meet
          case rel => exact ⟨_, (true), (by first | rfl | (simp; done) | (simp [*]; done)), H', ⟨by first | omega | exact Nat.le_refl _⟩, ⟨by repeat (first | (with_reducible first | exact HB.out | apply below_alloc | apply pw_below_drewN | apply below_drew1) | exact HB.out)⟩⟩
      · rw [if_neg c14] at H
        have c14b0 : ((IntKind.u64.wrap (t118)) == t120) = false := beq_eq_false_iff_ne.mpr c14
        have c14b1 : ((IntKind.u64.wrap (t118)) != t120) = true := bne_iff_ne.mpr c14
        (first | rw [c14b0] | (simp only [i64_w, i32_w]; rw [c14b0]) | skip)
        have H' := Aside0.mk H
        clear H
        go_wp2
        go_meet
        case rel => exact ⟨_, (true), (by first | rfl | (simp; done) | (simp [*]; done)), H', ⟨by first | omega | exact Nat.le_refl _⟩, ⟨by repeat (first | (with_reducible first | exact HB.out | apply below_alloc | apply pw_below_drewN | apply below_drew1) | exact HB.out)⟩⟩
    case rest =>
      clear HC11
      try clear c1
      try clear p2
      try clear c3
      try clear c4
      try clear c4b0
      try clear c4b1
      try clear c6
      try clear c7
      try clear c8
      try clear c9
      try clear c14
      try clear c14b0
      try clear c14b1
      try clear c15
      try clear c15b0
      try clear c15b1
      try clear c16
      try clear c16b0
      try clear c16b1
      obtain ⟨kq, x68_10, rfl, HA, HJ10, HB⟩ := hcut
      cases kq with
      | zero => exact absurd HA.out (by simp [stevedorelaw01_WordReads.j0])
      | succ kj10 =>
        have H := HA.out
        clear HA
        simp only [stevedorelaw01_WordReads.j0] at H
        by_cases c17 : x68_10 = true
        · subst c17
          have H1 : (some false) = some r := by rw [if_pos rfl] at H; exact H
          clear H
          have H := H1
          clear H1
          obtain rfl := Option.some.inj H
          go_wp2
          go_ret
          exact ⟨by first | rfl | (simp [errW_none, errW_some] <;> rfl) | (simp [*, errW_none, errW_some] <;> rfl), by repeat (first | (with_reducible first | exact HB.out | apply below_alloc | apply pw_below_drewN | apply below_drew1) | exact HB.out)⟩
        · replace c17 := Bool.eq_false_iff.mpr c17
          subst c17
          have H1 : ((word_Four.f kj10 a0 a1).bind fun bt126 => ((stevedoreref01_Num.f kj10 a0 a1 4).bind fun bt128 => ((word_Six.f kj10 a0 a1).bind fun bt130 => ((stevedoreref01_Num.f kj10 a0 a1 6).bind fun bt132 => (if (IntKind.u64.wrap (bt126.1)) = bt128.1 then (if bt126.2 = bt128.2 then (if bt130.1 = bt132.1 then (stevedorelaw01_WordReads.j1 kj10 a0 a1 a2 (bt130.2 != bt132.2)) else (stevedorelaw01_WordReads.j1 kj10 a0 a1 a2 true)) else (stevedorelaw01_WordReads.j1 kj10 a0 a1 a2 true)) else (stevedorelaw01_WordReads.j1 kj10 a0 a1 a2 true)))))) = some r := by rw [if_neg (show ¬ (false = true) by decide)] at H; exact H
          clear H
          have H := H1
          clear H1
          replace H := Option.bind_eq_some_iff.mp H
          obtain ⟨⟨t126, t127⟩, A180, H⟩ := H
          replace H : ((stevedoreref01_Num.f kj10 a0 a1 4).bind fun bt128 => ((word_Six.f kj10 a0 a1).bind fun bt130 => ((stevedoreref01_Num.f kj10 a0 a1 6).bind fun bt132 => (if (IntKind.u64.wrap (t126)) = bt128.1 then (if t127 = bt128.2 then (if bt130.1 = bt132.1 then (stevedorelaw01_WordReads.j1 kj10 a0 a1 a2 (bt130.2 != bt132.2)) else (stevedorelaw01_WordReads.j1 kj10 a0 a1 a2 true)) else (stevedorelaw01_WordReads.j1 kj10 a0 a1 a2 true)) else (stevedorelaw01_WordReads.j1 kj10 a0 a1 a2 true))))) = some r := H
          have A18 := Aside0.mk A180
          clear A180
          replace H := Option.bind_eq_some_iff.mp H
          obtain ⟨⟨t128, t129⟩, A190, H⟩ := H
          replace H : ((word_Six.f kj10 a0 a1).bind fun bt130 => ((stevedoreref01_Num.f kj10 a0 a1 6).bind fun bt132 => (if (IntKind.u64.wrap (t126)) = t128 then (if t127 = t129 then (if bt130.1 = bt132.1 then (stevedorelaw01_WordReads.j1 kj10 a0 a1 a2 (bt130.2 != bt132.2)) else (stevedorelaw01_WordReads.j1 kj10 a0 a1 a2 true)) else (stevedorelaw01_WordReads.j1 kj10 a0 a1 a2 true)) else (stevedorelaw01_WordReads.j1 kj10 a0 a1 a2 true)))) = some r := H
          have A19 := Aside0.mk A190
          clear A190
          replace H := Option.bind_eq_some_iff.mp H
          obtain ⟨⟨t130, t131⟩, A200, H⟩ := H
          replace H : ((stevedoreref01_Num.f kj10 a0 a1 6).bind fun bt132 => (if (IntKind.u64.wrap (t126)) = t128 then (if t127 = t129 then (if t130 = bt132.1 then (stevedorelaw01_WordReads.j1 kj10 a0 a1 a2 (t131 != bt132.2)) else (stevedorelaw01_WordReads.j1 kj10 a0 a1 a2 true)) else (stevedorelaw01_WordReads.j1 kj10 a0 a1 a2 true)) else (stevedorelaw01_WordReads.j1 kj10 a0 a1 a2 true))) = some r := H
          have A20 := Aside0.mk A200
          clear A200
          replace H := Option.bind_eq_some_iff.mp H
          obtain ⟨⟨t132, t133⟩, A210, H⟩ := H
          replace H : (if (IntKind.u64.wrap (t126)) = t128 then (if t127 = t129 then (if t130 = t132 then (stevedorelaw01_WordReads.j1 kj10 a0 a1 a2 (t131 != t133)) else (stevedorelaw01_WordReads.j1 kj10 a0 a1 a2 true)) else (stevedorelaw01_WordReads.j1 kj10 a0 a1 a2 true)) else (stevedorelaw01_WordReads.j1 kj10 a0 a1 a2 true)) = some r := H
          have A21 := Aside0.mk A210
          clear A210
          have HC22 := Aside0.mk H
          clear H
          go_upto_region 13 with (first | ((with_reducible refine gate_callee (f := 10) rfl ?_); refine goesL_ (some 72) rfl rfl Try.func10 (by kernel_rfl) rfl #[.string a0, .int .i64 a1] rfl (by (try simp only [List.map_toArray, List.map_cons, List.map_nil]); first | done | rfl | (simp only [List.length_drop, List.length_take]; rfl)) ?_; (with_reducible refine (word_Four.calls kj10 a0 a1 t126 t127 _ A18.out).mono ?_); rintro e w23 ⟨rfl, hb⟩; refine ⟨_, rfl, ?_⟩; have n0_ := Aside0.mk (below_step (by repeat (first | (with_reducible first | exact HB.out | apply below_alloc | apply pw_below_drewN | apply below_drew1) | exact HB.out)) hb); clear HB; have HB := n0_; clear n0_; (try clear hb); (try clear hb2); (try clear hk); (try clear hi)) | ((with_reducible refine gate_callee (f := 8) rfl ?_); refine goesL_ (some 78) rfl rfl Try.func8 (by kernel_rfl) rfl #[.string a0, .int .i64 a1, .int .i64 4] rfl (by (try simp only [List.map_toArray, List.map_cons, List.map_nil]); first | done | rfl | (simp only [List.length_drop, List.length_take]; rfl)) ?_; (with_reducible refine (stevedoreref01_Num.calls kj10 a0 a1 4 t128 t129 _ A19.out).mono ?_); rintro e w' ⟨rfl, ⟨nd, rfl⟩⟩; refine ⟨_, rfl, ?_⟩) | ((with_reducible refine gate_callee (f := 11) rfl ?_); refine goesL_ (some 84) rfl rfl Try.func11 (by kernel_rfl) rfl #[.string a0, .int .i64 a1] rfl (by (try simp only [List.map_toArray, List.map_cons, List.map_nil]); first | done | rfl | (simp only [List.length_drop, List.length_take]; rfl)) ?_; (with_reducible refine (word_Six.calls kj10 a0 a1 t130 t131 _ A20.out).mono ?_); rintro e w24 ⟨rfl, hb⟩; refine ⟨_, rfl, ?_⟩; have n0_ := Aside0.mk (below_step (by repeat (first | (with_reducible first | exact HB.out | apply below_alloc | apply pw_below_drewN | apply below_drew1) | exact HB.out)) hb); clear HB; have HB := n0_; clear n0_; (try clear hb); (try clear hb2); (try clear hk); (try clear hi)) | ((with_reducible refine gate_callee (f := 8) rfl ?_); refine goesL_ (some 90) rfl rfl Try.func8 (by kernel_rfl) rfl #[.string a0, .int .i64 a1, .int .i64 6] rfl (by (try simp only [List.map_toArray, List.map_cons, List.map_nil]); first | done | rfl | (simp only [List.length_drop, List.length_take]; rfl)) ?_; (with_reducible refine (stevedoreref01_Num.calls kj10 a0 a1 6 t132 t133 _ A21.out).mono ?_); rintro e w' ⟨rfl, ⟨nd, rfl⟩⟩; refine ⟨_, rfl, ?_⟩))
          (try simp only [Act.put, List.setIfInBounds_toArray, List.set_cons_zero, List.set_cons_succ])
          go_cut [111] (fun v111 wc => ∃ (kq : Nat) (x111_21 : Bool), v111 = .bool x111_21 ∧ Aside0 (stevedorelaw01_WordReads.j1 kq a0 a1 a2 x111_21 = some r) ∧ Aside0 (kq ≤ kj10) ∧ Aside0 (Below w.heap.size w wc))
          case first =>
            have H := HC22.out
            clear HC22
            by_cases c25 : (IntKind.u64.wrap (t126)) = t128
            · rw [if_pos c25] at H
              have c25b0 : ((IntKind.u64.wrap (t126)) == t128) = true := beq_iff_eq.mpr c25
              have c25b1 : ((IntKind.u64.wrap (t126)) != t128) = false := bne_eq_false_iff_eq.mpr c25
              clear c25
              (first | rw [c25b0] | (simp only [i64_w, i32_w]; rw [c25b0]) | skip)
              by_cases c26 : t127 = t129
              · rw [if_pos c26] at H
                have c26b0 : (t127 == t129) = true := beq_iff_eq.mpr c26
                have c26b1 : (t127 != t129) = false := bne_eq_false_iff_eq.mpr c26
                clear c26
                by_cases c27 : t130 = t132
                · rw [if_pos c27] at H
                  have c27b0 : (t130 == t132) = true := beq_iff_eq.mpr c27
                  have c27b1 : (t130 != t132) = false := bne_eq_false_iff_eq.mpr c27
                  clear c27
                  have H' := Aside0.mk H
                  clear H
                  go_wp2
                  go_meet
                  case rel => exact ⟨_, ((t131 != t133)), (by first | rfl | (simp; done) | (simp [*]; done)), H', ⟨by have := HJ10.out; first | omega | exact Nat.le_refl _⟩, ⟨by repeat (first | (with_reducible first | exact HB.out | apply below_alloc | apply pw_below_drewN | apply below_drew1) | exact HB.out)⟩⟩
                · rw [if_neg c27] at H
                  have c27b0 : (t130 == t132) = false := beq_eq_false_iff_ne.mpr c27
                  have c27b1 : (t130 != t132) = true := bne_iff_ne.mpr c27
                  have H' := Aside0.mk H
                  clear H
                  go_wp2
                  go_meet
                  case rel => exact ⟨_, (true), (by first | rfl | (simp; done) | (simp [*]; done)), H', ⟨by have := HJ10.out; first | omega | exact Nat.le_refl _⟩, ⟨by repeat (first | (with_reducible first | exact HB.out | apply below_alloc | apply pw_below_drewN | apply below_drew1) | exact HB.out)⟩⟩
              · rw [if_neg c26] at H
                have c26b0 : (t127 == t129) = false := beq_eq_false_iff_ne.mpr c26
                have c26b1 : (t127 != t129) = true := bne_iff_ne.mpr c26
                have H' := Aside0.mk H
                clear H
                go_wp2
                go_meet
                case rel => exact ⟨_, (true), (by first | rfl | (simp; done) | (simp [*]; done)), H', ⟨by have := HJ10.out; first | omega | exact Nat.le_refl _⟩, ⟨by repeat (first | (with_reducible first | exact HB.out | apply below_alloc | apply pw_below_drewN | apply below_drew1) | exact HB.out)⟩⟩
            · rw [if_neg c25] at H
              have c25b0 : ((IntKind.u64.wrap (t126)) == t128) = false := beq_eq_false_iff_ne.mpr c25
              have c25b1 : ((IntKind.u64.wrap (t126)) != t128) = true := bne_iff_ne.mpr c25
              (first | rw [c25b0] | (simp only [i64_w, i32_w]; rw [c25b0]) | skip)
              have H' := Aside0.mk H
              clear H
              go_wp2
              go_meet
              case rel => exact ⟨_, (true), (by first | rfl | (simp; done) | (simp [*]; done)), H', ⟨by have := HJ10.out; first | omega | exact Nat.le_refl _⟩, ⟨by repeat (first | (with_reducible first | exact HB.out | apply below_alloc | apply pw_below_drewN | apply below_drew1) | exact HB.out)⟩⟩
          case rest =>
            clear HC22
            try clear c1
            try clear c2
            try clear p2
            try clear c3
            try clear c4
            try clear c4b0
            try clear c4b1
            try clear c6
            try clear c7
            try clear c8
            try clear c9
            try clear c10
            try clear c11
            try clear c14
            try clear c14b0
            try clear c14b1
            try clear c15
            try clear c15b0
            try clear c15b1
            try clear c16
            try clear c16b0
            try clear c16b1
            try clear c17
            try clear c25
            try clear c25b0
            try clear c25b1
            try clear c26
            try clear c26b0
            try clear c26b1
            try clear c27
            try clear c27b0
            try clear c27b1
            try clear p2
            obtain ⟨kq, x111_21, rfl, HA, HJ21, HB⟩ := hcut
            cases kq with
            | zero => exact absurd HA.out (by simp [stevedorelaw01_WordReads.j1])
            | succ kj21 =>
              have H := HA.out
              clear HA
              simp only [stevedorelaw01_WordReads.j1] at H
              by_cases c28 : x111_21 = true
              · subst c28
                have H1 : (some false) = some r := by rw [if_pos rfl] at H; exact H
                clear H
                have H := H1
                clear H1
                obtain rfl := Option.some.inj H
                go_wp2
                go_ret
                exact ⟨by first | rfl | (simp [errW_none, errW_some] <;> rfl) | (simp [*, errW_none, errW_some] <;> rfl), by repeat (first | (with_reducible first | exact HB.out | apply below_alloc | apply pw_below_drewN | apply below_drew1) | exact HB.out)⟩
              · replace c28 := Bool.eq_false_iff.mpr c28
                subst c28
                have H1 : ((word_Text.f kj21 a0 a1 a2).bind fun bt134 => ((stevedoreref01_Text.f kj21 a0 a1 a2).bind fun bt136 => ((word_Rest.f kj21 a0 a1).bind fun bt138 => ((stevedoreref01_Rest.f kj21 a0 a1).bind fun bt140 => (if bt134.1.toList = bt136.1.toList then (if bt134.2 = bt136.2 then (if bt138.1.toList = bt140.1.toList then (if bt138.2 = bt140.2 then ((stevedorelaw01_alive.f).bind fun t142 => (some t142)) else (some false)) else (some false)) else (some false)) else (some false)))))) = some r := by rw [if_neg (show ¬ (false = true) by decide)] at H; exact H
                clear H
                have H := H1
                clear H1
                replace H := Option.bind_eq_some_iff.mp H
                obtain ⟨⟨t134, t135⟩, A290, H⟩ := H
                replace H : ((stevedoreref01_Text.f kj21 a0 a1 a2).bind fun bt136 => ((word_Rest.f kj21 a0 a1).bind fun bt138 => ((stevedoreref01_Rest.f kj21 a0 a1).bind fun bt140 => (if t134.toList = bt136.1.toList then (if t135 = bt136.2 then (if bt138.1.toList = bt140.1.toList then (if bt138.2 = bt140.2 then ((stevedorelaw01_alive.f).bind fun t142 => (some t142)) else (some false)) else (some false)) else (some false)) else (some false))))) = some r := H
                have A29 := Aside0.mk A290
                clear A290
                replace H := Option.bind_eq_some_iff.mp H
                obtain ⟨⟨t136, t137⟩, A300, H⟩ := H
                replace H : ((word_Rest.f kj21 a0 a1).bind fun bt138 => ((stevedoreref01_Rest.f kj21 a0 a1).bind fun bt140 => (if t134.toList = t136.toList then (if t135 = t137 then (if bt138.1.toList = bt140.1.toList then (if bt138.2 = bt140.2 then ((stevedorelaw01_alive.f).bind fun t142 => (some t142)) else (some false)) else (some false)) else (some false)) else (some false)))) = some r := H
                have A30 := Aside0.mk A300
                clear A300
                replace H := Option.bind_eq_some_iff.mp H
                obtain ⟨⟨t138, t139⟩, A310, H⟩ := H
                replace H : ((stevedoreref01_Rest.f kj21 a0 a1).bind fun bt140 => (if t134.toList = t136.toList then (if t135 = t137 then (if t138.toList = bt140.1.toList then (if t139 = bt140.2 then ((stevedorelaw01_alive.f).bind fun t142 => (some t142)) else (some false)) else (some false)) else (some false)) else (some false))) = some r := H
                have A31 := Aside0.mk A310
                clear A310
                replace H := Option.bind_eq_some_iff.mp H
                obtain ⟨⟨t140, t141⟩, A320, H⟩ := H
                replace H : (if t134.toList = t136.toList then (if t135 = t137 then (if t138.toList = t140.toList then (if t139 = t141 then ((stevedorelaw01_alive.f).bind fun t142 => (some t142)) else (some false)) else (some false)) else (some false)) else (some false)) = some r := H
                have A32 := Aside0.mk A320
                clear A320
                by_cases c33 : t134.toList = t136.toList
                · rw [if_pos c33] at H
                  have c33b0 : (t134.toList == t136.toList) = true := beq_iff_eq.mpr c33
                  have c33b1 : (t134.toList != t136.toList) = false := bne_eq_false_iff_eq.mpr c33
                  clear c33
                  by_cases c34 : t135 = t137
                  · rw [if_pos c34] at H
                    have c34b0 : (t135 == t137) = true := beq_iff_eq.mpr c34
                    have c34b1 : (t135 != t137) = false := bne_eq_false_iff_eq.mpr c34
                    clear c34
                    by_cases c35 : t138.toList = t140.toList
                    · rw [if_pos c35] at H
                      have c35b0 : (t138.toList == t140.toList) = true := beq_iff_eq.mpr c35
                      have c35b1 : (t138.toList != t140.toList) = false := bne_eq_false_iff_eq.mpr c35
                      clear c35
                      by_cases c36 : t139 = t141
                      · rw [if_pos c36] at H
                        have c36b0 : (t139 == t141) = true := beq_iff_eq.mpr c36
                        have c36b1 : (t139 != t141) = false := bne_eq_false_iff_eq.mpr c36
                        clear c36
                        replace H := Option.bind_eq_some_iff.mp H
                        obtain ⟨t142, A370, H⟩ := H
                        replace H : (some t142) = some r := H
                        have A37 := Aside0.mk A370
                        clear A370
                        obtain rfl := Option.some.inj H
                        go_wp2_with (first | ((with_reducible refine gate_callee (f := 12) rfl ?_); refine goesL_ (some 116) rfl rfl Try.func12 (by kernel_rfl) rfl #[.string a0, .int .i64 a1, .int .i64 a2] rfl (by (try simp only [List.map_toArray, List.map_cons, List.map_nil]); first | done | rfl | (simp only [List.length_drop, List.length_take]; rfl)) ?_; (with_reducible refine (word_Text.calls kj21 a0 a1 a2 t134 t135 _ A29.out).mono ?_); rintro e w' ⟨rfl, ⟨nd, rfl⟩⟩; refine ⟨_, rfl, ?_⟩) | ((with_reducible refine gate_callee (f := 13) rfl ?_); refine goesL_ (some 123) rfl rfl Try.func13 (by kernel_rfl) rfl #[.string a0, .int .i64 a1, .int .i64 a2] rfl (by (try simp only [List.map_toArray, List.map_cons, List.map_nil]); first | done | rfl | (simp only [List.length_drop, List.length_take]; rfl)) ?_; (with_reducible refine (stevedoreref01_Text.calls kj21 a0 a1 a2 t136 t137 _ A30.out).mono ?_); rintro e w' ⟨rfl, ⟨nd, rfl⟩⟩; refine ⟨_, rfl, ?_⟩) | ((with_reducible refine gate_callee (f := 14) rfl ?_); refine goesL_ (some 129) rfl rfl Try.func14 (by kernel_rfl) rfl #[.string a0, .int .i64 a1] rfl (by (try simp only [List.map_toArray, List.map_cons, List.map_nil]); first | done | rfl | (simp only [List.length_drop, List.length_take]; rfl)) ?_; (with_reducible refine (word_Rest.calls kj21 a0 a1 t138 t139 _ A31.out).mono ?_); rintro e w' ⟨rfl, ⟨nd, rfl⟩⟩; refine ⟨_, rfl, ?_⟩) | ((with_reducible refine gate_callee (f := 15) rfl ?_); refine goesL_ (some 135) rfl rfl Try.func15 (by kernel_rfl) rfl #[.string a0, .int .i64 a1] rfl (by (try simp only [List.map_toArray, List.map_cons, List.map_nil]); first | done | rfl | (simp only [List.length_drop, List.length_take]; rfl)) ?_; (with_reducible refine (stevedoreref01_Rest.calls kj21 a0 a1 t140 t141 _ A32.out).mono ?_); rintro e w' ⟨rfl, ⟨nd, rfl⟩⟩; refine ⟨_, rfl, ?_⟩) | (go_at_call 6; (with_reducible refine (stevedorelaw01_alive.calls  t142 _ A37.out).mono ?_); rintro e w38 ⟨rfl, hb⟩; have n0_ := Aside0.mk (below_step (by repeat (first | (with_reducible first | exact HB.out | apply below_alloc | apply pw_below_drewN | apply below_drew1) | exact HB.out)) hb); clear HB; have HB := n0_; clear n0_; (try clear hb); (try clear hb2); (try clear hk); (try clear hi)))
                        go_ret
                        exact ⟨by first | rfl | (simp [errW_none, errW_some] <;> rfl) | (simp [*, errW_none, errW_some] <;> rfl), by repeat (first | (with_reducible first | exact HB.out | apply below_alloc | apply pw_below_drewN | apply below_drew1) | exact HB.out)⟩
                      · rw [if_neg c36] at H
                        have c36b0 : (t139 == t141) = false := beq_eq_false_iff_ne.mpr c36
                        have c36b1 : (t139 != t141) = true := bne_iff_ne.mpr c36
                        obtain rfl := Option.some.inj H
                        go_wp2_with (first | ((with_reducible refine gate_callee (f := 12) rfl ?_); refine goesL_ (some 116) rfl rfl Try.func12 (by kernel_rfl) rfl #[.string a0, .int .i64 a1, .int .i64 a2] rfl (by (try simp only [List.map_toArray, List.map_cons, List.map_nil]); first | done | rfl | (simp only [List.length_drop, List.length_take]; rfl)) ?_; (with_reducible refine (word_Text.calls kj21 a0 a1 a2 t134 t135 _ A29.out).mono ?_); rintro e w' ⟨rfl, ⟨nd, rfl⟩⟩; refine ⟨_, rfl, ?_⟩) | ((with_reducible refine gate_callee (f := 13) rfl ?_); refine goesL_ (some 123) rfl rfl Try.func13 (by kernel_rfl) rfl #[.string a0, .int .i64 a1, .int .i64 a2] rfl (by (try simp only [List.map_toArray, List.map_cons, List.map_nil]); first | done | rfl | (simp only [List.length_drop, List.length_take]; rfl)) ?_; (with_reducible refine (stevedoreref01_Text.calls kj21 a0 a1 a2 t136 t137 _ A30.out).mono ?_); rintro e w' ⟨rfl, ⟨nd, rfl⟩⟩; refine ⟨_, rfl, ?_⟩) | ((with_reducible refine gate_callee (f := 14) rfl ?_); refine goesL_ (some 129) rfl rfl Try.func14 (by kernel_rfl) rfl #[.string a0, .int .i64 a1] rfl (by (try simp only [List.map_toArray, List.map_cons, List.map_nil]); first | done | rfl | (simp only [List.length_drop, List.length_take]; rfl)) ?_; (with_reducible refine (word_Rest.calls kj21 a0 a1 t138 t139 _ A31.out).mono ?_); rintro e w' ⟨rfl, ⟨nd, rfl⟩⟩; refine ⟨_, rfl, ?_⟩) | ((with_reducible refine gate_callee (f := 15) rfl ?_); refine goesL_ (some 135) rfl rfl Try.func15 (by kernel_rfl) rfl #[.string a0, .int .i64 a1] rfl (by (try simp only [List.map_toArray, List.map_cons, List.map_nil]); first | done | rfl | (simp only [List.length_drop, List.length_take]; rfl)) ?_; (with_reducible refine (stevedoreref01_Rest.calls kj21 a0 a1 t140 t141 _ A32.out).mono ?_); rintro e w' ⟨rfl, ⟨nd, rfl⟩⟩; refine ⟨_, rfl, ?_⟩))
                        go_ret
                        exact ⟨by first | rfl | (simp [errW_none, errW_some] <;> rfl) | (simp [*, errW_none, errW_some] <;> rfl), by repeat (first | (with_reducible first | exact HB.out | apply below_alloc | apply pw_below_drewN | apply below_drew1) | exact HB.out)⟩
                    · rw [if_neg c35] at H
                      have c35b0 : (t138.toList == t140.toList) = false := beq_eq_false_iff_ne.mpr c35
                      have c35b1 : (t138.toList != t140.toList) = true := bne_iff_ne.mpr c35
                      obtain rfl := Option.some.inj H
                      go_wp2_with (first | ((with_reducible refine gate_callee (f := 12) rfl ?_); refine goesL_ (some 116) rfl rfl Try.func12 (by kernel_rfl) rfl #[.string a0, .int .i64 a1, .int .i64 a2] rfl (by (try simp only [List.map_toArray, List.map_cons, List.map_nil]); first | done | rfl | (simp only [List.length_drop, List.length_take]; rfl)) ?_; (with_reducible refine (word_Text.calls kj21 a0 a1 a2 t134 t135 _ A29.out).mono ?_); rintro e w' ⟨rfl, ⟨nd, rfl⟩⟩; refine ⟨_, rfl, ?_⟩) | ((with_reducible refine gate_callee (f := 13) rfl ?_); refine goesL_ (some 123) rfl rfl Try.func13 (by kernel_rfl) rfl #[.string a0, .int .i64 a1, .int .i64 a2] rfl (by (try simp only [List.map_toArray, List.map_cons, List.map_nil]); first | done | rfl | (simp only [List.length_drop, List.length_take]; rfl)) ?_; (with_reducible refine (stevedoreref01_Text.calls kj21 a0 a1 a2 t136 t137 _ A30.out).mono ?_); rintro e w' ⟨rfl, ⟨nd, rfl⟩⟩; refine ⟨_, rfl, ?_⟩) | ((with_reducible refine gate_callee (f := 14) rfl ?_); refine goesL_ (some 129) rfl rfl Try.func14 (by kernel_rfl) rfl #[.string a0, .int .i64 a1] rfl (by (try simp only [List.map_toArray, List.map_cons, List.map_nil]); first | done | rfl | (simp only [List.length_drop, List.length_take]; rfl)) ?_; (with_reducible refine (word_Rest.calls kj21 a0 a1 t138 t139 _ A31.out).mono ?_); rintro e w' ⟨rfl, ⟨nd, rfl⟩⟩; refine ⟨_, rfl, ?_⟩) | ((with_reducible refine gate_callee (f := 15) rfl ?_); refine goesL_ (some 135) rfl rfl Try.func15 (by kernel_rfl) rfl #[.string a0, .int .i64 a1] rfl (by (try simp only [List.map_toArray, List.map_cons, List.map_nil]); first | done | rfl | (simp only [List.length_drop, List.length_take]; rfl)) ?_; (with_reducible refine (stevedoreref01_Rest.calls kj21 a0 a1 t140 t141 _ A32.out).mono ?_); rintro e w' ⟨rfl, ⟨nd, rfl⟩⟩; refine ⟨_, rfl, ?_⟩))
                      go_ret
                      exact ⟨by first | rfl | (simp [errW_none, errW_some] <;> rfl) | (simp [*, errW_none, errW_some] <;> rfl), by repeat (first | (with_reducible first | exact HB.out | apply below_alloc | apply pw_below_drewN | apply below_drew1) | exact HB.out)⟩
                  · rw [if_neg c34] at H
                    have c34b0 : (t135 == t137) = false := beq_eq_false_iff_ne.mpr c34
                    have c34b1 : (t135 != t137) = true := bne_iff_ne.mpr c34
                    obtain rfl := Option.some.inj H
                    go_wp2_with (first | ((with_reducible refine gate_callee (f := 12) rfl ?_); refine goesL_ (some 116) rfl rfl Try.func12 (by kernel_rfl) rfl #[.string a0, .int .i64 a1, .int .i64 a2] rfl (by (try simp only [List.map_toArray, List.map_cons, List.map_nil]); first | done | rfl | (simp only [List.length_drop, List.length_take]; rfl)) ?_; (with_reducible refine (word_Text.calls kj21 a0 a1 a2 t134 t135 _ A29.out).mono ?_); rintro e w' ⟨rfl, ⟨nd, rfl⟩⟩; refine ⟨_, rfl, ?_⟩) | ((with_reducible refine gate_callee (f := 13) rfl ?_); refine goesL_ (some 123) rfl rfl Try.func13 (by kernel_rfl) rfl #[.string a0, .int .i64 a1, .int .i64 a2] rfl (by (try simp only [List.map_toArray, List.map_cons, List.map_nil]); first | done | rfl | (simp only [List.length_drop, List.length_take]; rfl)) ?_; (with_reducible refine (stevedoreref01_Text.calls kj21 a0 a1 a2 t136 t137 _ A30.out).mono ?_); rintro e w' ⟨rfl, ⟨nd, rfl⟩⟩; refine ⟨_, rfl, ?_⟩) | ((with_reducible refine gate_callee (f := 14) rfl ?_); refine goesL_ (some 129) rfl rfl Try.func14 (by kernel_rfl) rfl #[.string a0, .int .i64 a1] rfl (by (try simp only [List.map_toArray, List.map_cons, List.map_nil]); first | done | rfl | (simp only [List.length_drop, List.length_take]; rfl)) ?_; (with_reducible refine (word_Rest.calls kj21 a0 a1 t138 t139 _ A31.out).mono ?_); rintro e w' ⟨rfl, ⟨nd, rfl⟩⟩; refine ⟨_, rfl, ?_⟩) | ((with_reducible refine gate_callee (f := 15) rfl ?_); refine goesL_ (some 135) rfl rfl Try.func15 (by kernel_rfl) rfl #[.string a0, .int .i64 a1] rfl (by (try simp only [List.map_toArray, List.map_cons, List.map_nil]); first | done | rfl | (simp only [List.length_drop, List.length_take]; rfl)) ?_; (with_reducible refine (stevedoreref01_Rest.calls kj21 a0 a1 t140 t141 _ A32.out).mono ?_); rintro e w' ⟨rfl, ⟨nd, rfl⟩⟩; refine ⟨_, rfl, ?_⟩))
                    go_ret
                    exact ⟨by first | rfl | (simp [errW_none, errW_some] <;> rfl) | (simp [*, errW_none, errW_some] <;> rfl), by repeat (first | (with_reducible first | exact HB.out | apply below_alloc | apply pw_below_drewN | apply below_drew1) | exact HB.out)⟩
                · rw [if_neg c33] at H
                  have c33b0 : (t134.toList == t136.toList) = false := beq_eq_false_iff_ne.mpr c33
                  have c33b1 : (t134.toList != t136.toList) = true := bne_iff_ne.mpr c33
                  obtain rfl := Option.some.inj H
                  go_wp2_with (first | ((with_reducible refine gate_callee (f := 12) rfl ?_); refine goesL_ (some 116) rfl rfl Try.func12 (by kernel_rfl) rfl #[.string a0, .int .i64 a1, .int .i64 a2] rfl (by (try simp only [List.map_toArray, List.map_cons, List.map_nil]); first | done | rfl | (simp only [List.length_drop, List.length_take]; rfl)) ?_; (with_reducible refine (word_Text.calls kj21 a0 a1 a2 t134 t135 _ A29.out).mono ?_); rintro e w' ⟨rfl, ⟨nd, rfl⟩⟩; refine ⟨_, rfl, ?_⟩) | ((with_reducible refine gate_callee (f := 13) rfl ?_); refine goesL_ (some 123) rfl rfl Try.func13 (by kernel_rfl) rfl #[.string a0, .int .i64 a1, .int .i64 a2] rfl (by (try simp only [List.map_toArray, List.map_cons, List.map_nil]); first | done | rfl | (simp only [List.length_drop, List.length_take]; rfl)) ?_; (with_reducible refine (stevedoreref01_Text.calls kj21 a0 a1 a2 t136 t137 _ A30.out).mono ?_); rintro e w' ⟨rfl, ⟨nd, rfl⟩⟩; refine ⟨_, rfl, ?_⟩) | ((with_reducible refine gate_callee (f := 14) rfl ?_); refine goesL_ (some 129) rfl rfl Try.func14 (by kernel_rfl) rfl #[.string a0, .int .i64 a1] rfl (by (try simp only [List.map_toArray, List.map_cons, List.map_nil]); first | done | rfl | (simp only [List.length_drop, List.length_take]; rfl)) ?_; (with_reducible refine (word_Rest.calls kj21 a0 a1 t138 t139 _ A31.out).mono ?_); rintro e w' ⟨rfl, ⟨nd, rfl⟩⟩; refine ⟨_, rfl, ?_⟩) | ((with_reducible refine gate_callee (f := 15) rfl ?_); refine goesL_ (some 135) rfl rfl Try.func15 (by kernel_rfl) rfl #[.string a0, .int .i64 a1] rfl (by (try simp only [List.map_toArray, List.map_cons, List.map_nil]); first | done | rfl | (simp only [List.length_drop, List.length_take]; rfl)) ?_; (with_reducible refine (stevedoreref01_Rest.calls kj21 a0 a1 t140 t141 _ A32.out).mono ?_); rintro e w' ⟨rfl, ⟨nd, rfl⟩⟩; refine ⟨_, rfl, ?_⟩))
                  go_ret
                  exact ⟨by first | rfl | (simp [errW_none, errW_some] <;> rfl) | (simp [*, errW_none, errW_some] <;> rfl), by repeat (first | (with_reducible first | exact HB.out | apply below_alloc | apply pw_below_drewN | apply below_drew1) | exact HB.out)⟩

/-- THE ONE PURE STATEMENT of stevedorelaw01_WordReads: yours. -/
def stevedorelaw01_WordReads.Pure : Prop := ∀ (a0 : ByteArray) (a1 : Int) (a2 : Int), a0.size ≤ 140737488351232 → (Lit.int .i64 a1).wf = true → (Lit.int .i64 a2).wf = true → ∃ k, stevedorelaw01_WordReads.f k a0 a1 a2 = some true
theorem stevedorelaw01_WordReads.walk (P : stevedorelaw01_WordReads.Pure) (a0 : ByteArray) (a1 : Int) (a2 : Int) (w : World) (w0 : a0.size ≤ 140737488351232) (w1 : (Lit.int .i64 a1).wf = true) (w2 : (Lit.int .i64 a2).wf = true) :
    Calls Try.prog 3 #[.string a0, .int .i64 a1, .int .i64 a2] w fun e w' => e = .returned (.bool true) ∧ Below w.heap.size w w' := by
  obtain ⟨k, h⟩ := P a0 a1 a2 w0 w1 w2
  refine (stevedorelaw01_WordReads.calls k a0 a1 a2 true w h).mono ?_
  rintro e w' ⟨rfl, hd⟩
  exact ⟨rfl, hd⟩

end Go.Proofs.Ytpieabhpgefbnaa.PWordReads
