import Derived.Test.YtbodppjponepgaaCg9
namespace Go.Proofs.Ytbodppjponepgaa.Cg
open Go.RowKit Blk Go.Proofs.YtbodppjponepgaaW.PrintWords
theorem max2_mx (k k' : IntKind) (x y : Int) : Builtin.max2 (.int k x) (.int k' y) = pure (.int k (mx x y)) := Go.Proofs.YtbodppjponepgaaW.PrintMore.max2_int k k' x y
theorem min2_mn (k k' : IntKind) (x y : Int) : Builtin.min2 (.int k x) (.int k' y) = pure (.int k (mn x y)) := Go.Proofs.YtbodppjponepgaaW.PrintMore.min2_int k k' x y
attribute [local go_sem] max2_mx min2_mn Go.Proofs.YtbodppjponepgaaW.PrintMore.max_two Go.Proofs.YtbodppjponepgaaW.PrintMore.min_two
set_option linter.unusedVariables false

set_option maxHeartbeats 20000000 in
set_option maxRecDepth 100000 in
theorem bounds_k (m : Int) (a : Option Addr) (len cap_ : Nat) (z : Nat → Op.Cl) (w : World) (hr : Op.Script w a len z) (hlen : len ≤ 9223372036854775807) :
    Calls Try.prog 5 #[.int .i64 m, .slice a len cap_] w fun e w' => e = .returned (.bool true) ∧ Below w.heap.size w w' := by
  by_cases c0 : m < 1 ∨ 65535 < m
  · by_cases c1 : 300 < len
    all_goals
      go_enter Try.func5, Try.ntmps5
      go_wp2_with fail
      refine (new_no m w c0).mono ?_
      rintro e w1 ⟨rfl, rfl⟩
      go_wp2_with fail
      refine (alive_k w w (Below.refl _ _)).mono ?_
      rintro e w1 ⟨rfl, hb⟩
      go_wp2
      go_ret
      exact ⟨rfl, hb⟩
  have hm : 1 ≤ m ∧ m ≤ 65535 := by omega
  obtain ⟨hm1, hm2⟩ := hm
  clear c0
  by_cases c1 : 300 < len
  · go_enter Try.func5, Try.ntmps5
    go_wp2_with fail
    refine (new_l m w w (Below.refl _ _) ⟨hm1, hm2⟩).mono ?_
    rintro e w1 ⟨rfl, HL⟩
    go_wp2_with fail
    refine (alive_k w _ HL.below).mono ?_
    rintro e w1 ⟨rfl, hb⟩
    go_wp2
    go_ret
    exact ⟨rfl, hb⟩
  have HR := Lib.hid hr
  have HI := Lib.hid (start_inv m ⟨hm1, hm2⟩)
  clear hr
  go_enter Try.func5, Try.ntmps5
  go_wp2_with fail
  refine (new_l m w w (Below.refl _ _) ⟨hm1, hm2⟩).mono ?_
  rintro e w1 ⟨rfl, HL⟩
  go_wp2
  generalize w.heap.size = b at HL ⊢
  generalize start m = s0 at *
  go_loopg [7] len (fun g vi wr => ∃ (i : Nat) (s : St), i + g = len ∧ vi = .int .i64 i ∧ Hid (Inv s m i) ∧ Lone w b s wr)
  case atStart => exact ⟨0, s0, by omega, rfl, HI, HL⟩
  case round =>
    clear HL HI
    obtain ⟨i, s, hig, rfl, hI, HL⟩ := hrel
    by_cases hi : i < len
    · obtain ⟨bb, off, ea, hcell⟩ := HR.out.resolve_left (by omega)
      subst ea
      obtain ⟨hok, k0, k1, k2, k3, k4⟩ := hcell i hi
      have q0 := later HL.below k0
      have q1 := later HL.below k1
      have q2 := later HL.below k2
      have q3 := later HL.below k3
      have q4 := later HL.below k4
      clear k0 k1 k2 k3 k4 hcell
      obtain ⟨⟨d, una, next, n, f⟩, hz⟩ : ∃ y, y = z i := ⟨_, rfl⟩
      rw [← hz] at hok q0 q1 q2 q3 q4
      obtain ⟨hd, hu, hx, hn, hf⟩ := hok
      clear hz
      dsimp only at hd hu hx hn hf q0 q1 q2 q3 q4
      have hhalf := half_wrap f hf
      trace_state
      have hd8 : (d % 8 = 0 ∨ d % 8 = 1 ∨ d % 8 = 2) ∨ (d % 8 = 3 ∨ d % 8 = 4 ∨ d % 8 = 5 ∨ d % 8 = 6) ∨ d % 8 = 7 := by omega
      rcases hd8 with hd8 | hd8 | hd8
      · rcases hd8 with hd8 | hd8 | hd8
        all_goals
          as_aux_lemma =>
            obtain ⟨i1, i2, i3⟩ := acked_inv s una n m i hI.out
            have HI1 := Lib.hid i1
            have f1 := i1.win
            have f2 := i1.ok.w1
            have f3 := i1.edge
            clear i1
            by_cases hst : s.state = 2
            · clear i2
              by_cases hb : (s.acked una n).2 = true
              · have HE := Lib.hid (i3 hb)
                clear i3
                go_wp2_with fail
                refine (window_l (HL.alloc _)).mono ?_
                rintro e w9 ⟨rfl, rfl⟩
                go_wp2_with fail
                refine (state_l (HL.alloc _)).mono ?_
                rintro e w9 ⟨rfl, rfl⟩
                rw [hst]
                go_wp2_with fail
                refine (acked_l una n (HL.alloc _) hI.out.ok (by omega) (by omega)).mono ?_
                clear HL
                rintro e w9 ⟨rfl, HL⟩
                generalize (s.acked una n).1 = s1 at *
                rw [hb]
                go_wp2_with fail
                refine (state_l HL).mono ?_
                rintro e w9 ⟨rfl, rfl⟩
                rw [HE.out]
                go_wp2_with fail
                refine (window_l HL).mono ?_
                rintro e w9 ⟨rfl, rfl⟩
                go_wp2_with fail
                refine (window_l HL).mono ?_
                rintro e w9 ⟨rfl, rfl⟩
                go_wp2_with fail
                refine (edge_l HL).mono ?_
                rintro e w9 ⟨rfl, rfl⟩
                go_wp2
                go_roundg (len - (i + 1))
                case measure => omega
                case rel => exact ⟨i + 1, s1, by omega, by go_num, Lib.hid (by rw [show ((i + 1 : Nat) : Int) = i + 1 by omega]; exact HI1.out), HL⟩
              · have hb : (s.acked una n).2 = false := by simpa using hb
                clear i3
                go_wp2_with fail
                refine (window_l (HL.alloc _)).mono ?_
                rintro e w9 ⟨rfl, rfl⟩
                go_wp2_with fail
                refine (state_l (HL.alloc _)).mono ?_
                rintro e w9 ⟨rfl, rfl⟩
                rw [hst]
                go_wp2_with fail
                refine (acked_l una n (HL.alloc _) hI.out.ok (by omega) (by omega)).mono ?_
                clear HL
                rintro e w9 ⟨rfl, HL⟩
                generalize (s.acked una n).1 = s1 at *
                rw [hb]
                go_wp2_with fail
                refine (window_l HL).mono ?_
                rintro e w9 ⟨rfl, rfl⟩
                go_wp2_with fail
                refine (window_l HL).mono ?_
                rintro e w9 ⟨rfl, rfl⟩
                go_wp2_with fail
                refine (edge_l HL).mono ?_
                rintro e w9 ⟨rfl, rfl⟩
                go_wp2
                go_roundg (len - (i + 1))
                case measure => omega
                case rel => exact ⟨i + 1, s1, by omega, by go_num, Lib.hid (by rw [show ((i + 1 : Nat) : Int) = i + 1 by omega]; exact HI1.out), HL⟩
            · obtain ⟨hb, f4, f5⟩ := i2 hst
              have e1 := beq_f hst
              have e2 : (s.state != 2) = true := by rw [bne, e1]; rfl
              clear i2 i3 hst
              have HB := Lib.hid hb
              clear hb
              go_wp2_with fail
              refine (window_l (HL.alloc _)).mono ?_
              rintro e w9 ⟨rfl, rfl⟩
              go_wp2_with fail
              refine (state_l (HL.alloc _)).mono ?_
              rintro e w9 ⟨rfl, rfl⟩
              go_wp2_with fail
              refine (acked_l una n (HL.alloc _) hI.out.ok (by omega) (by omega)).mono ?_
              clear HL
              rintro e w9 ⟨rfl, HL⟩
              generalize HG : (s.acked una n).1 = s1 at *
              clear HG
              rw [HB.out]
              go_wp2_with fail
              refine (window_l HL).mono ?_
              rintro e w9 ⟨rfl, rfl⟩
              go_wp2_with fail
              refine (window_l HL).mono ?_
              rintro e w9 ⟨rfl, rfl⟩
              go_wp2_with fail
              refine (window_l HL).mono ?_
              rintro e w9 ⟨rfl, rfl⟩
              go_wp2_with fail
              refine (window_l HL).mono ?_
              rintro e w9 ⟨rfl, rfl⟩
              go_wp2_with fail
              refine (edge_l HL).mono ?_
              rintro e w9 ⟨rfl, rfl⟩
              go_wp2
              go_roundg (len - (i + 1))
              case measure => omega
              case rel => exact ⟨i + 1, s1, by omega, by go_num, Lib.hid (by rw [show ((i + 1 : Nat) : Int) = i + 1 by omega]; exact HI1.out), HL⟩
      · rcases hd8 with hd8 | hd8 | hd8 | hd8
        all_goals
          as_aux_lemma =>
            obtain ⟨i1, i2, i3⟩ := twice_inv s una next f m i hI.out (by omega)
            have HI1 := Lib.hid i1
            have f1 := i1.win
            have f2 := i1.ok.w1
            have f3 := i1.edge
            clear i1
            by_cases hb : (s.twice una next f).2 = true
            · obtain ⟨hst, g1, g2⟩ := i2 hb
              have e1 := beq_f hst
              have G1 := Lib.hid g1
              have G2 := Lib.hid g2
              have HB := Lib.hid hb
              clear i2 i3 hst g1 g2 hb
              go_wp2_with fail
              refine (window_l (HL.alloc _)).mono ?_
              rintro e w9 ⟨rfl, rfl⟩
              go_wp2_with fail
              refine (state_l (HL.alloc _)).mono ?_
              rintro e w9 ⟨rfl, rfl⟩
              go_wp2_with fail
              refine (twice_l una next f (HL.alloc _) hI.out.ok (by omega) (by omega)).mono ?_
              clear HL
              rintro e w9 ⟨rfl, HL⟩
              generalize HG : (s.twice una next f).1 = s1 at *
              clear HG
              rw [HB.out]
              go_wp2_with fail
              refine (state_l HL).mono ?_
              rintro e w9 ⟨rfl, rfl⟩
              rw [G1.out]
              go_wp2_with fail
              refine (edge_l HL).mono ?_
              rintro e w9 ⟨rfl, rfl⟩
              rw [G2.out, cap]
              go_wp2_with fail
              refine (window_l HL).mono ?_
              rintro e w9 ⟨rfl, rfl⟩
              go_wp2_with fail
              refine (window_l HL).mono ?_
              rintro e w9 ⟨rfl, rfl⟩
              go_wp2_with fail
              refine (edge_l HL).mono ?_
              rintro e w9 ⟨rfl, rfl⟩
              go_wp2
              go_roundg (len - (i + 1))
              case measure => omega
              case rel => exact ⟨i + 1, s1, by omega, by go_num, Lib.hid (by rw [show ((i + 1 : Nat) : Int) = i + 1 by omega]; exact HI1.out), HL⟩
            · have hb : (s.twice una next f).2 = false := by simpa using hb
              obtain ⟨g1, f4⟩ := i3 hb
              have G1 := Lib.hid g1
              have HB := Lib.hid hb
              clear i2 i3 g1 hb
              go_wp2_with fail
              refine (window_l (HL.alloc _)).mono ?_
              rintro e w9 ⟨rfl, rfl⟩
              go_wp2_with fail
              refine (state_l (HL.alloc _)).mono ?_
              rintro e w9 ⟨rfl, rfl⟩
              go_wp2_with fail
              refine (twice_l una next f (HL.alloc _) hI.out.ok (by omega) (by omega)).mono ?_
              clear HL
              rintro e w9 ⟨rfl, HL⟩
              generalize HG : (s.twice una next f).1 = s1 at *
              clear HG
              rw [HB.out]
              go_wp2_with fail
              refine (state_l HL).mono ?_
              rintro e w9 ⟨rfl, rfl⟩
              rw [G1.out]
              go_wp2_with fail
              refine (window_l HL).mono ?_
              rintro e w9 ⟨rfl, rfl⟩
              go_wp2_with fail
              refine (window_l HL).mono ?_
              rintro e w9 ⟨rfl, rfl⟩
              go_wp2_with fail
              refine (window_l HL).mono ?_
              rintro e w9 ⟨rfl, rfl⟩
              go_wp2_with fail
              refine (edge_l HL).mono ?_
              rintro e w9 ⟨rfl, rfl⟩
              go_wp2
              go_roundg (len - (i + 1))
              case measure => omega
              case rel => exact ⟨i + 1, s1, by omega, by go_num, Lib.hid (by rw [show ((i + 1 : Nat) : Int) = i + 1 by omega]; exact HI1.out), HL⟩
      · as_aux_lemma =>
          obtain ⟨i1, g1, g2, g3⟩ := late_inv s next f m i hI.out (by omega)
          have HI1 := Lib.hid i1
          have f1 := i1.win
          have f2 := i1.ok.w1
          have f3 := i1.edge
          clear i1
          have G1 := Lib.hid g1
          have G2 := Lib.hid g2
          have G3 := Lib.hid g3
          clear g1 g2 g3
          go_wp2_with fail
          refine (window_l (HL.alloc _)).mono ?_
          rintro e w9 ⟨rfl, rfl⟩
          go_wp2_with fail
          refine (state_l (HL.alloc _)).mono ?_
          rintro e w9 ⟨rfl, rfl⟩
          go_wp2_with fail
          refine (late_l next f (HL.alloc _) hI.out.ok (by omega)).mono ?_
          clear HL
          rintro e w9 ⟨rfl, HL⟩
          generalize HG : s.late next f = s1 at *
          clear HG
          go_wp2_with fail
          refine (window_l HL).mono ?_
          rintro e w9 ⟨rfl, rfl⟩
          rw [G1.out]
          go_wp2_with fail
          refine (edge_l HL).mono ?_
          rintro e w9 ⟨rfl, rfl⟩
          rw [G2.out, cap]
          go_wp2_with fail
          refine (state_l HL).mono ?_
          rintro e w9 ⟨rfl, rfl⟩
          rw [G3.out]
          go_wp2_with fail
          refine (window_l HL).mono ?_
          rintro e w9 ⟨rfl, rfl⟩
          go_wp2_with fail
          refine (window_l HL).mono ?_
          rintro e w9 ⟨rfl, rfl⟩
          go_wp2_with fail
          refine (edge_l HL).mono ?_
          rintro e w9 ⟨rfl, rfl⟩
          go_wp2
          go_roundg (len - (i + 1))
          case measure => omega
          case rel => exact ⟨i + 1, s1, by omega, by go_num, Lib.hid (by rw [show ((i + 1 : Nat) : Int) = i + 1 by omega]; exact HI1.out), HL⟩
    · have hB := HL.below
      clear hI HL
      go_wp2_with fail
      refine (alive_k w _ hB).mono ?_
      rintro e w11 ⟨rfl, hb⟩
      go_wp2
      go_ret
      exact ⟨rfl, hb⟩
end Go.Proofs.Ytbodppjponepgaa.Cg
