import Derived.Test.YtbodppjponepgaaCg6
namespace Go.Proofs.Ytbodppjponepgaa.Cg
open Go.RowKit Blk Go.Proofs.YtbodppjponepgaaW.PrintWords
attribute [local go_sem] Go.Proofs.YtbodppjponepgaaW.PrintMore.max2_int Go.Proofs.YtbodppjponepgaaW.PrintMore.min2_int Go.Proofs.YtbodppjponepgaaW.PrintMore.max_two Go.Proofs.YtbodppjponepgaaW.PrintMore.min_two
set_option linter.unusedVariables false

/-- It grows slowly yet: so wide a window, below the edge. -/
structure Slow (s : St) (m E W : Int) : Prop where
  ok : s.Ok 10
  mss : s.mss = m
  edge : s.edge = E
  st : s.state = 0
  win : s.window = W
  lt : W < E
/-- It has come to the edge. -/
structure Done (s : St) (m E : Int) : Prop where
  ok : s.Ok 10
  mss : s.mss = m
  edge : s.edge = E
  st : s.state = 1
  w0 : E ≤ s.window
  w1 : s.window < E + m
  c0 : s.counted = 0

theorem edge_of (m f : Int) (hm : 1 ≤ m ∧ m ≤ 65535) (hf : 0 ≤ f ∧ f ≤ 65535) : 2 * m ≤ cap (mx (f.tdiv 2) (2 * m)) ∧ cap (mx (f.tdiv 2) (2 * m)) ≤ 131070 := by
  rw [Int.tdiv_eq_ediv_of_nonneg hf.1]
  unfold cap mn mx
  (repeat' split) <;> omega
theorem slow_start (m f : Int) (hm : 1 ≤ m ∧ m ≤ 65535) (hf : 0 ≤ f ∧ f ≤ 65535) : Slow ((start m).late 0 f) m (cap (mx (f.tdiv 2) (2 * m))) m := by
  have h := edge_of m f hm hf
  exact ⟨(late_ok (start m) 0 f (start_ok m hm) (by decide)).mono (by decide), rfl, rfl, rfl, rfl, by omega⟩
theorem slow_step (s : St) (m E W u n : Int) (h : Slow s m E W) (hm : 1 ≤ m ∧ m ≤ 65535) (hE : E ≤ 131070) (hn : 1 ≤ n ∧ n ≤ m) : (W + n < E ∧ Slow (s.acked u n).1 m E (W + n)) ∨ (E ≤ W + n ∧ Done (s.acked u n).1 m E) := by
  have w0 := h.ok.w0
  rw [h.win] at w0
  have lt := h.lt
  have o := slow_ok s.fresh n (fresh_ok s h.ok) hn.1
  have e : s.acked u n = (s.fresh.slow n, false) := by
    unfold St.acked
    rw [if_neg (by omega), if_pos h.st]
  have ev : cap (s.fresh.window + mn n s.fresh.mss) = W + n := by
    rw [show s.fresh.window = W from h.win, show s.fresh.mss = m from h.mss]
    unfold cap mn
    (repeat' split) <;> omega
  have eE : s.fresh.edge = E := h.edge
  rw [e]
  have hs : s.fresh.slow n = s.fresh.grow (W + n) := by unfold St.slow; rw [ev]
  dsimp only
  rw [hs] at o ⊢
  by_cases c : E ≤ W + n
  · refine .inr ⟨c, ?_⟩
    have e2 : s.fresh.grow (W + n) = _ := if_pos (by rw [eE]; exact c)
    rw [e2] at o ⊢
    exact ⟨o, h.mss, h.edge, rfl, c, show W + n < E + m by omega, rfl⟩
  · refine .inl ⟨by omega, ?_⟩
    have e2 : s.fresh.grow (W + n) = _ := if_neg (by rw [eE]; exact c)
    rw [e2] at o ⊢
    exact ⟨o, h.mss, h.edge, h.st, rfl, by omega⟩
/-- Behind the edge, nothing counted. -/
structure Avoid (s : St) (m W K : Int) : Prop where
  ok : s.Ok K
  mss : s.mss = m
  st : s.state = 1
  win : s.window = W
  c0 : s.counted = 0
theorem avoid_step (s : St) (m W K u : Int) (h : Avoid s m W K) (hm : 1 ≤ m ∧ m ≤ 65535) (hW : 1 ≤ W ∧ W ≤ 1000000) : Avoid (s.acked u W).1 m (W + m) (K + 1) := by
  have o := acked_ok s u W h.ok
  have e : s.acked u W = (s.fresh.avoid W, false) := by
    unfold St.acked
    rw [if_neg (by omega), if_neg (by rw [h.st]; decide), if_pos h.st]
  have ev : s.fresh.counted + cap W = W := by
    rw [show s.fresh.counted = 0 from h.c0]
    unfold cap mn
    split <;> omega
  have e2 : s.fresh.avoid W = ⟨m, W + m, s.edge, s.state, 0, 0, s.mark⟩ := by
    unfold St.avoid
    rw [ev]
    unfold St.count
    rw [if_pos (by rw [show s.fresh.window = W from h.win]; omega)]
    have e3 : cap (s.fresh.window + s.fresh.mss) = W + m := by
      rw [show s.fresh.window = W from h.win, show s.fresh.mss = m from h.mss]
      unfold cap mn
      split <;> omega
    rw [e3, show s.fresh.window = W from h.win, show s.fresh.mss = m from h.mss, show W - W = 0 by omega]
    rfl
  rw [e] at o ⊢
  rw [e2] at o ⊢
  exact ⟨o, rfl, h.st, rfl, rfl⟩

theorem acked_any (s : St) (u n : Int) (h : s.state ≠ 2) (hs : s.state = 0 ∨ s.state = 1) : s.acked u n = s.acked 0 n := by
  unfold St.acked
  rcases hs with e | e
  · rw [if_pos e, if_pos e]
  · rw [if_neg (show ¬ s.state = 0 by omega), if_pos e, if_neg (show ¬ s.state = 0 by omega), if_pos e]
theorem acked_fst (s : St) (u n : Int) (h : s.state = 0) : (s.acked u n).1 = (s.acked 0 n).1 := by
  rw [acked_any s u n (by omega) (.inl h)]
theorem avoid_fst (s : St) (u n : Int) (h : s.state = 1) : (s.acked u n).1 = (s.acked 0 n).1 := by
  rw [acked_any s u n (by omega) (.inr h)]

set_option maxHeartbeats 8000000 in
set_option maxRecDepth 100000 in
theorem grows_k (m f : Int) (w : World) (hm : 0 ≤ m ∧ m ≤ 65535) (hf : 0 ≤ f ∧ f ≤ 65535) :
    Calls Try.prog 6 #[.int .u16 m, .int .u16 f] w fun e w' => e = .returned (.bool true) ∧ Below w.heap.size w w' := by
  by_cases c0 : m = 0
  · subst c0
    go_enter Try.func6, Try.ntmps6
    go_wp2_with fail
    refine (new_no 0 w (by decide)).mono ?_
    rintro e w1 ⟨rfl, rfl⟩
    go_wp2_with fail
    refine (alive_k w w (Below.refl _ _)).mono ?_
    rintro e w1 ⟨rfl, hb⟩
    go_wp2
    go_ret
    exact ⟨rfl, hb⟩
  have hm1 : 1 ≤ m := by omega
  clear c0
  have hs := slow_start m f ⟨hm1, hm.2⟩ hf
  have hE := edge_of m f ⟨hm1, hm.2⟩ hf
  have HS := Lib.hid hs
  have hE1 := hE.1
  have hE2 := hE.2
  have HE := Lib.hid (show ((start m).late 0 f).edge = cap (mx (f.tdiv 2) (2 * m)) from hs.edge)
  clear hs hE
  generalize cap (mx (f.tdiv 2) (2 * m)) = E at *
  have HO := Lib.hid ((start_ok m ⟨hm1, hm.2⟩).mono (show (0 : Int) ≤ 10 by decide))
  go_enter Try.func6, Try.ntmps6
  go_wp2_with fail
  refine (new_l m w w (Below.refl _ _) ⟨hm1, hm.2⟩).mono ?_
  rintro e w1 ⟨rfl, HL⟩
  go_wp2_with fail
  refine (late_l 0 f HL HO.out (by omega)).mono ?_
  clear HL
  rintro e w2 ⟨rfl, HL⟩
  generalize (start m).late 0 f = s0 at *
  clear HO
  go_wp2_with fail
  refine (edge_l HL).mono ?_
  rintro e w3 ⟨rfl, rfl⟩
  rw [HE.out]
  clear HE
  go_wp2
  generalize w.heap.size = b at HL ⊢
  go_loopg [9, 10] 40 (fun g vu vi wr => ∃ (i : Nat) (u : Int) (s : St), i + g = 40 ∧ vi = .int .i64 i ∧ vu = .int .u32 u ∧ 0 ≤ u ∧ u ≤ 4294967295 ∧ Hid ((∃ W, Slow s m E W ∧ ((2 ^ i : Nat) : Int) ≤ W) ∨ Done s m E) ∧ Lone w b s wr)
  case atStart => exact ⟨0, 0, s0, by omega, rfl, rfl, by omega, by omega, Lib.hid (.inl ⟨m, HS.out, by show (1 : Int) ≤ m; omega⟩), HL⟩
  case round =>
    clear HL HS
    obtain ⟨i, u, s, hig, rfl, rfl, hu0, hu1, hs, HL⟩ := hrel
    rcases hs.out with ⟨W, hW, hp⟩ | hD
    · have HW := Lib.hid hW
      have HP := Lib.hid hp
      have wlt := hW.lt
      have w0 : 0 ≤ W := by have := hW.ok.w0; rw [hW.win] at this; exact this
      clear hW hp hs
      by_cases hi : i < 40
      · go_wp2_with fail
        refine (state_l HL).mono ?_
        rintro e w4 ⟨rfl, rfl⟩
        rw [HW.out.st]
        go_wp2_with fail
        refine (window_l HL).mono ?_
        rintro e w5 ⟨rfl, rfl⟩
        rw [HW.out.win]
        go_wp2
        go_loopg [9, 12] (W.toNat + 1) (fun g vu vn wr => ∃ (u n : Int) (s : St), n.toNat + 1 ≤ g ∧ n ≤ W ∧ -65536 ≤ n ∧ vn = .int .i64 n ∧ vu = .int .u32 u ∧ 0 ≤ u ∧ u ≤ 4294967295 ∧ Hid (Slow s m E (2 * W - mx n 0) ∨ Done s m E) ∧ Lone w b s wr)
        case atStart => exact ⟨u, W, s, by omega, by omega, by omega, rfl, rfl, by omega, by omega, Lib.hid (.inl (by rw [show 2 * W - mx W 0 = W by unfold mx; split <;> omega]; exact HW.out)), HL⟩
        case round =>
          clear HL HW
          obtain ⟨u, n, s, hng, hn1, hn2, rfl, rfl, hu0, hu1, hs, HL⟩ := hrel
          by_cases hn : 0 < n
          · rcases hs.out with h | hD
            · by_cases hmn : m < n
              · clear hs
                have hst := slow_step s m E (2 * W - mx n 0) 0 m h ⟨hm1, hm.2⟩ hE2 (by omega)
                have HT := Lib.hid hst
                have HH := Lib.hid h
                clear hst h
                go_wp2_with fail
                refine (state_l HL).mono ?_
                rintro e w6 ⟨rfl, rfl⟩
                rw [HH.out.st]
                go_wp2_with fail
                refine (acked_l _ m HL HH.out.ok (by decide) (by omega)).mono ?_
                clear HL
                rintro e w7 ⟨rfl, HL⟩
                rw [acked_fst s _ m HH.out.st] at HL
                go_wp2
                go_roundg (n - m).toNat.succ
                case measure => omega
                case rel => exact ⟨_, n - m, _, by omega, by omega, by omega, rfl, rfl, by omega, by omega, Lib.hid (HT.out.elim (fun x => .inl (by rw [show 2 * W - mx (n - m) 0 = 2 * W - mx n 0 + m by unfold mx; (repeat' split) <;> omega]; exact x.2)) (fun x => .inr x.2)), HL⟩
              · clear hs
                have hst := slow_step s m E (2 * W - mx n 0) 0 n h ⟨hm1, hm.2⟩ hE2 (by omega)
                have HT := Lib.hid hst
                have HH := Lib.hid h
                clear hst h
                go_wp2_with fail
                refine (state_l HL).mono ?_
                rintro e w6 ⟨rfl, rfl⟩
                rw [HH.out.st]
                go_wp2_with fail
                refine (acked_l _ n HL HH.out.ok (by decide) (by omega)).mono ?_
                clear HL
                rintro e w7 ⟨rfl, HL⟩
                rw [acked_fst s _ n HH.out.st] at HL
                go_wp2
                go_roundg (n - m).toNat.succ
                case measure => omega
                case rel => exact ⟨_, n - m, _, by omega, by omega, by omega, rfl, rfl, by omega, by omega, Lib.hid (HT.out.elim (fun x => .inl (by rw [show 2 * W - mx (n - m) 0 = 2 * W - mx n 0 + n by unfold mx; (repeat' split) <;> omega]; exact x.2)) (fun x => .inr x.2)), HL⟩
            · have HD := Lib.hid hD
              clear hs hD
              go_wp2_with fail
              refine (state_l HL).mono ?_
              rintro e w6 ⟨rfl, rfl⟩
              rw [HD.out.st]
              have hw0 := HD.out.w0
              by_cases hq : E < 2 * W
              all_goals
                go_wp2_with fail
                refine (window_l HL).mono ?_
                rintro e w8 ⟨rfl, rfl⟩
                generalize hG : s.window = win at hw0 ⊢
                clear hG
                have hq2 : 2 * W ≤ win ∨ E < 2 * W := by omega
                go_wp2
                go_roundg (40 - (i + 1))
                case measure => omega
                case rel => exact ⟨i + 1, u, s, by omega, by go_num, rfl, by omega, by omega, Lib.hid (.inr HD.out), HL⟩
          · rcases hs.out with h | hD
            · have HA := Lib.hid (show Slow s m E (2 * W) by rw [show 2 * W = 2 * W - mx n 0 by unfold mx; split <;> omega]; exact h)
              clear hs h
              by_cases hq : E < 2 * W
              all_goals
                go_wp2_with fail
                refine (window_l HL).mono ?_
                rintro e w8 ⟨rfl, rfl⟩
                rw [HA.out.win]
                go_wp2
                go_roundg (40 - (i + 1))
                case measure => omega
                case rel => exact ⟨i + 1, u, s, by omega, by go_num, rfl, by omega, by omega, Lib.hid (.inl ⟨2 * W, HA.out, by have := HP.out; rw [Nat.pow_succ]; omega⟩), HL⟩
            · have HD := Lib.hid hD
              clear hs hD
              have hw0 := HD.out.w0
              by_cases hq : E < 2 * W
              all_goals
                go_wp2_with fail
                refine (window_l HL).mono ?_
                rintro e w8 ⟨rfl, rfl⟩
                generalize hG : s.window = win at hw0 ⊢
                clear hG
                have hq2 : 2 * W ≤ win ∨ E < 2 * W := by omega
                go_wp2
                go_roundg (40 - (i + 1))
                case measure => omega
                case rel => exact ⟨i + 1, u, s, by omega, by go_num, rfl, by omega, by omega, Lib.hid (.inr HD.out), HL⟩
      · have hi40 : i = 40 := by omega
        subst hi40
        have h1 := HP.out
        have h2 : (2 ^ 40 : Nat) = 1099511627776 := by decide
        omega
    · have HD := Lib.hid hD
      have hw0 := hD.w0
      have hw1 := hD.w1
      clear hs hD
      by_cases hi : i < 40
      case pos =>
        go_wp2_with fail
        refine (state_l HL).mono ?_
        rintro e w4 ⟨rfl, rfl⟩
        rw [HD.out.st]
        go_wp2_with fail
        refine (state_l HL).mono ?_
        rintro e w5 ⟨rfl, rfl⟩
        rw [HD.out.st]
        go_wp2_with fail
        refine (window_l HL).mono ?_
        rintro e w6 ⟨rfl, rfl⟩
        obtain ⟨W0, hW0⟩ : ∃ W0, W0 = s.window := ⟨_, rfl⟩
        have HW := Lib.hid hW0
        rw [← hW0] at hw0 hw1 ⊢
        clear hW0
        go_wp2_with fail
        refine (window_l HL).mono ?_
        rintro e w7 ⟨rfl, rfl⟩
        rw [← HW.out]
        go_wp2
        have HA := Lib.hid (show Avoid s m W0 10 from ⟨HD.out.ok, HD.out.mss, HD.out.st, HW.out.symm, HD.out.c0⟩)
        clear HW HD
        go_loopg [9, 13] 5 (fun g vu vj wr => ∃ (j : Nat) (u W : Int) (s : St), j + g = 5 ∧ vj = .int .i64 j ∧ vu = .int .u32 u ∧ 0 ≤ u ∧ u ≤ 4294967295 ∧ 1 ≤ W ∧ W ≤ 200000 + 65536 * j ∧ Hid (Avoid s m W (10 + j)) ∧ Lone w b s wr)
        case atStart => exact ⟨0, u, W0, s, by omega, rfl, rfl, by omega, by omega, by omega, by omega, HA, HL⟩
        case round =>
          clear HL HA hw0 hw1
          obtain ⟨j, u, W, s, hjg, rfl, rfl, hu0, hu1, hW0, hW1, hA, HL⟩ := hrel
          by_cases hj : j < 5
          · have hst := avoid_step s m W (10 + j) 0 hA.out ⟨hm1, hm.2⟩ (by omega)
            have HT := Lib.hid hst
            clear hst
            go_wp2_with fail
            refine (window_l HL).mono ?_
            rintro e w8 ⟨rfl, rfl⟩
            rw [hA.out.win]
            go_wp2_with fail
            refine (acked_l _ W HL hA.out.ok (by omega) (by omega)).mono ?_
            clear HL
            rintro e w9 ⟨rfl, HL⟩
            rw [avoid_fst s _ W hA.out.st] at HL
            go_wp2_with fail
            refine (window_l HL).mono ?_
            rintro e w10 ⟨rfl, rfl⟩
            rw [HT.out.win]
            go_wp2
            go_roundg (5 - (j + 1))
            case measure => omega
            case rel => exact ⟨j + 1, _, W + m, _, by omega, by go_num, rfl, by omega, by omega, by omega, by omega, Lib.hid (by rw [show (10 : Int) + ((j + 1 : Nat) : Int) = 10 + j + 1 by omega]; exact HT.out), HL⟩
          · have hB := HL.below
            clear HL hA
            go_wp2_with fail
            refine (alive_k w _ hB).mono ?_
            rintro e w11 ⟨rfl, hb⟩
            go_wp2
            go_ret
            exact ⟨rfl, hb⟩
      case neg =>
        go_wp2_with fail
        refine (state_l HL).mono ?_
        rintro e w5 ⟨rfl, rfl⟩
        rw [HD.out.st]
        go_wp2_with fail
        refine (window_l HL).mono ?_
        rintro e w6 ⟨rfl, rfl⟩
        obtain ⟨W0, hW0⟩ : ∃ W0, W0 = s.window := ⟨_, rfl⟩
        have HW := Lib.hid hW0
        rw [← hW0] at hw0 hw1 ⊢
        clear hW0
        go_wp2_with fail
        refine (window_l HL).mono ?_
        rintro e w7 ⟨rfl, rfl⟩
        rw [← HW.out]
        go_wp2
        have HA := Lib.hid (show Avoid s m W0 10 from ⟨HD.out.ok, HD.out.mss, HD.out.st, HW.out.symm, HD.out.c0⟩)
        clear HW HD
        go_loopg [9, 13] 5 (fun g vu vj wr => ∃ (j : Nat) (u W : Int) (s : St), j + g = 5 ∧ vj = .int .i64 j ∧ vu = .int .u32 u ∧ 0 ≤ u ∧ u ≤ 4294967295 ∧ 1 ≤ W ∧ W ≤ 200000 + 65536 * j ∧ Hid (Avoid s m W (10 + j)) ∧ Lone w b s wr)
        case atStart => exact ⟨0, u, W0, s, by omega, rfl, rfl, by omega, by omega, by omega, by omega, HA, HL⟩
        case round =>
          clear HL HA hw0 hw1
          obtain ⟨j, u, W, s, hjg, rfl, rfl, hu0, hu1, hW0, hW1, hA, HL⟩ := hrel
          by_cases hj : j < 5
          · have hst := avoid_step s m W (10 + j) 0 hA.out ⟨hm1, hm.2⟩ (by omega)
            have HT := Lib.hid hst
            clear hst
            go_wp2_with fail
            refine (window_l HL).mono ?_
            rintro e w8 ⟨rfl, rfl⟩
            rw [hA.out.win]
            go_wp2_with fail
            refine (acked_l _ W HL hA.out.ok (by omega) (by omega)).mono ?_
            clear HL
            rintro e w9 ⟨rfl, HL⟩
            rw [avoid_fst s _ W hA.out.st] at HL
            go_wp2_with fail
            refine (window_l HL).mono ?_
            rintro e w10 ⟨rfl, rfl⟩
            rw [HT.out.win]
            go_wp2
            go_roundg (5 - (j + 1))
            case measure => omega
            case rel => exact ⟨j + 1, _, W + m, _, by omega, by go_num, rfl, by omega, by omega, by omega, by omega, Lib.hid (by rw [show (10 : Int) + ((j + 1 : Nat) : Int) = 10 + j + 1 by omega]; exact HT.out), HL⟩
          · have hB := HL.below
            clear HL hA
            go_wp2_with fail
            refine (alive_k w _ hB).mono ?_
            rintro e w11 ⟨rfl, hb⟩
            go_wp2
            go_ret
            exact ⟨rfl, hb⟩
end Go.Proofs.Ytbodppjponepgaa.Cg
