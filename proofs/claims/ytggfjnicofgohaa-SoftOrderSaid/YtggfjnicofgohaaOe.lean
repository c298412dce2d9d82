import Derived.Test.YtggfjnicofgohaaOf
namespace Go.Proofs.Ytggfjnicofgohaa.Sf
open Go.RowKit Blk Go.Maps Go.ChangeMaps Go.Proofs.YtggfjnicofgohaaW.PrintWords
set_option linter.unusedVariables false
theorem oput_n (s : St) (core hash id : Int) : (s.put core hash id).1.n = s.n := by unfold St.put; split; rfl; split; rfl; split <;> rfl
set_option maxHeartbeats 20000000 in
set_option maxRecDepth 100000 in
theorem order_k (c m : Int) (a : Option Addr) (len cap : Nat) (z : Nat → Op.Stp) (w : World) (hc : 0 ≤ c ∧ c ≤ 255) (hm : 0 ≤ m ∧ m ≤ 255) (hs : Op.Script w a len z) (hl : len ≤ 9223372036854775807) :
    Calls Try.prog 3 #[.int .u8 c, .int .u8 m, .slice a len cap] w fun e w' => e = .returned (.bool true) ∧ Below w.heap.size w w' := by
  have HS := Lib.hid hs
  clear hs
  obtain ⟨N, hN⟩ : ∃ N : Nat, c.tmod 8 + 1 = N := ⟨(c.tmod 8 + 1).toNat, by rw [Int.tmod_eq_emod_of_nonneg hc.1]; omega⟩
  have hN1 : 1 ≤ N ∧ N ≤ 8 := by rw [Int.tmod_eq_emod_of_nonneg hc.1] at hN; omega
  have hNmod : c.tmod 8 = (N : Int) - 1 := by omega
  obtain ⟨M, hM⟩ : ∃ M : Nat, m.tmod 20 + 1 = M := ⟨(m.tmod 20 + 1).toNat, by rw [Int.tmod_eq_emod_of_nonneg hm.1]; omega⟩
  have hM1 : 1 ≤ M ∧ M ≤ 256 := by rw [Int.tmod_eq_emod_of_nonneg hm.1] at hM; omega
  have hMmod : m.tmod 20 = (M : Int) - 1 := by omega
  have hmm := @run_makeMap Try.prog
  go_enter Try.func3, Try.ntmps3
  go_wp2_with fail
  refine (heavy_c a len cap z w HS.out hl).mono ?_
  rintro e w1 ⟨t, rfl, rfl, hlt⟩
  cases t with
  | true =>
    clear hlt
    go_wp2_with fail
    refine (works_k w w (Below.refl _ _)).mono ?_
    rintro e w3 ⟨rfl, hb⟩
    go_wp2
    go_ret
    exact ⟨rfl, hb⟩
  | false =>
    obtain ⟨h300, hon⟩ := hlt rfl
    have HON := Lib.hid hon
    clear hlt hon
    go_wp2_with fail
    refine (new_o N M w w (Below.refl _ _) hN1 hM1).mono ?_
    rintro e w1 ⟨rfl, HL⟩
    obtain ⟨l, HW⟩ := wt_start HL
    obtain ⟨ha0, ht0⟩ := al_start N M hN1 hM1
    have HA := Lib.hid ha0
    have HT : Hid (tot (fresh N M).rows = TW (fun _ => [])) := Lib.hid (ht0.trans TW_start.symm)
    clear HL ha0 ht0
    go_wp2
    have hsn : (fresh N M).n = N := rfl
    generalize w.heap.size + 2 = b at HW ⊢
    generalize World.alloc (World.alloc w1 _) _ = w2 at HW ⊢
    generalize w1.heap.size = mb at HW ⊢
    obtain ⟨ma, hma⟩ : ∃ ma, ma = mb + 1 := ⟨_, rfl⟩
    rw [← hma] at HW ⊢
    clear hma
    generalize fresh N M = s0 at *
    go_loopg [12] len (fun g vi wr => ∃ (i : Nat) (s : St) (n : Nat) (V : Nat → Value) (wt : Nat → List Int) (at' : Nat → Int) (D Da : DataW Value), i + g = len ∧ vi = .int .i64 i ∧ s.n = N ∧ n ≤ 2 * i ∧ Hid (Al s wt at' i) ∧ Hid (tot s.rows = TW wt) ∧ Wt w b l mb ma s n V wt at' D Da wr)
    case atStart => exact ⟨0, s0, 0, _, _, _, _, _, by omega, rfl, hsn, by omega, HA, HT, HW⟩
    case round =>
      clear HW HA HT hsn
      obtain ⟨i, s, n, V, wt, at', D, Da, hig, rfl, hsn, hn2, HA, HT, HW⟩ := hrel
      by_cases hi : i < len
      · obtain ⟨bb, off, ea, hcell⟩ := HS.out.resolve_left (by omega)
        subst ea
        obtain ⟨hok, k0, k1, k2, k3, k4, kr⟩ := hcell i hi
        have q0 := later HW.below k0
        have q1 := later HW.below k1
        have q2 := later HW.below k2
        have q3 := later HW.below k3
        have q4 := later HW.below k4
        have hra := Lib.hid kr
        have hon := HON.out i hi
        clear k0 k1 k2 k3 k4 kr hcell
        obtain ⟨⟨d, core, hash, id, on, A, cc⟩, hz⟩ : ∃ y, y = z i := ⟨_, rfl⟩
        rw [← hz] at hok q0 q1 q2 q3 q4 hra hon
        obtain ⟨hcb, hh, _⟩ := hok
        clear hz
        dsimp only at hcb hh hon hra q0 q1 q2 q3 q4
        have HX : Wx w b l mb ma s n V wt at' D Da wr.heap.size ⟨d, core, hash, id, on, A, cc⟩ (wr.alloc (.cells #[.int .i64 d, .int .i64 core, .int .u32 hash, .int .u64 id, .slice A on.length cc] 35)) := HW.step ⟨d, core, hash, id, on, A, cc⟩
        clear HW
        obtain ⟨j, hj, hj2⟩ := bucket hash
        have hi300 : i ≤ 100000 := by omega
        by_cases hd2 : d = 2
        · as_aux_lemma =>
            subst hd2
            obtain ⟨s', v, e1⟩ : ∃ s' v, s.cores on = (s', v) := ⟨_, _, rfl⟩
            have hcs := HA.out.cores on
            rw [e1] at hcs
            obtain ⟨hA', hr', hn'⟩ := hcs
            dsimp only at hA' hr' hn'
            have hsn' : s'.n = N := hn'.trans hsn
            have HA' := Lib.hid hA'.mono
            have HT' : Hid (tot s'.rows = TW wt) := Lib.hid (by rw [hr']; exact HT.out)
            have hn8 : s.n ≤ 8 := HA.out.n8
            clear hA' hr' hn' hj
            by_cases h0 : on.length = 0
            · obtain rfl : on = [] := List.length_eq_zero_iff.1 h0
              dsimp only [List.length_nil] at HX q4
              go_wp2_with (at_builtin; refine wpList_app rfl _ _ 33 rfl (.slice none 0 0) (.slice A 0 cc) (.slice none 0 0) _ _ rfl rfl (copy_run0 A cc _) ?_)
              refine (wcores HX hn8 none 0 [] (q_nil _ 0 3) (by decide) e1).mono ?_
              clear HX e1
              rintro e w4 ⟨rfl, HX⟩
              go_wp2
              go_roundg (len - (i + 1))
              case measure => omega
              case rel => exact ⟨i + 1, s', n, V, wt, at', D, Da, by omega, by go_num, hsn', by omega, HA', HT', HX.wt⟩
            · have hon1 : 1 ≤ on.length := by omega
              have hon2 : on.length ≤ 1000000 := by omega
              obtain ⟨g, o, rfl, hcc⟩ := (hra.out.later HX.wt.below).resolve_left h0
              obtain ⟨A', c', w5, hrun, hq, hB⟩ := copy_run hcc cc hon1 hon2
              have HX5 : Wx w b l mb ma s n V wt at' D Da wr.heap.size _ w5 := ⟨HX.wt.under hB, (keeps_below (T := fun _ => True) hB).has trivial HX.y⟩
              have R1 := Lib.hid hrun
              have HQ := Lib.hid hq
              clear hrun hq hcc hra HX
              go_wp2_with (at_builtin; refine wpList_app rfl _ _ 33 rfl (.slice none 0 0) (.slice (some ⟨g, o, none⟩) on.length cc) (.slice A' on.length c') _ w5 rfl rfl R1.out ?_)
              refine (wcores HX5 hn8 _ _ on HQ.out hon2 e1).mono ?_
              clear HX5 e1
              rintro e w4 ⟨rfl, HX⟩
              go_wp2
              go_roundg (len - (i + 1))
              case measure => omega
              case rel => exact ⟨i + 1, s', n, V, wt, at', D, Da, by omega, by go_num, hsn', by omega, HA', HT', HX.wt⟩
        · by_cases hd1 : d = 1
          · as_aux_lemma =>
              subst hd1
              rcases HA.out.take core with e1 | ⟨⟨pid, ph⟩, jj, rest, s', hpj, hjj, hpb, e1, hw, hat, hA', ht', hn'⟩
              · have HA' := Lib.hid HA.out.mono
                clear hj hra
                go_wp2_with fail
                refine (wtake core HX HA.out hi300 e1).mono ?_
                clear HX e1
                rintro e w4 ⟨rfl, HX⟩
                go_wp2
                go_roundg (len - (i + 1))
                case measure => omega
                case rel => exact ⟨i + 1, s, n, V, wt, at', D, Da, by omega, by go_num, hsn, by omega, HA', HT, HX.wt⟩
              · dsimp only at hpj hpb e1 hw
                have HA' := Lib.hid hA'.mono
                have HT' : Hid (tot s'.rows = TW (fun k => if k = jj then rest else wt k)) := Lib.hid (by
                  rw [TW_set wt jj hjj, ht', HT.out, hw, List.length_cons]
                  omega)
                have hsn' : s'.n = N := hn'.trans hsn
                have HW := Lib.hid hw
                have HAT := Lib.hid hat
                clear hj hra hA' ht' hn' hw hat
                go_wp2_with fail
                refine (wtake core HX HA.out hi300 e1).mono ?_
                clear HX e1
                rintro e w4 ⟨rfl, HX⟩
                obtain ⟨g, o, c9, A', c', w5, eV, hcell, hcut, run2, ⟨V', D', HW5⟩, _⟩ := HX.wt.less (by omega) jj hjj pid rest HW.out
                have hl1 := HX.wt.look jj hjj
                rw [eV] at hl1
                have hl2 := HX.wt.lookA jj hjj
                rw [HAT.out] at hl2
                obtain ⟨y1, y2, y3, y4⟩ := wcells HX
                dsimp only at y1 y2 y3 y4
                have HW' := Lib.hid HW5
                have hp1 : (((rest.length + 1 : Nat) : Int) == 0) = false := beq_eq_false_iff_ne.2 (by omega)
                clear HW5 HX eV
                go_wp2
                go_roundg (len - (i + 1))
                case measure => omega
                case rel => exact ⟨i + 1, s', n + 1, V', _, at', D', Da, by omega, by go_num, hsn', by omega, HA', HT', HW'.out⟩
          · as_aux_lemma =>
              have b1 : (d == 1) = false := beq_eq_false_iff_ne.2 hd1
              have b2 : (d == 2) = false := beq_eq_false_iff_ne.2 hd2
              have htg := HA.out.target hash hh j hj hj2
              have hput := HA.out.put hash id hh j hj hj2
              have HTGT := Lib.hid (rfl : s.target hash = s.target hash)
              obtain ⟨q, hq⟩ := Int.eq_ofNat_of_zero_le htg.1.1
              rw [hq] at htg hput
              have hqn : (q : Int) < (N : Int) := by rw [← hsn]; exact htg.1.2
              have HAT := Lib.hid htg.2.1
              have HPUT := Lib.hid hput
              have HQ := Lib.hid hq
              have hsh := HA.out.short j hj2
              clear htg hput hq hra
              go_wp2_with fail
              refine (wtarget hash HX HA.out hh).mono ?_
              rintro e w3 ⟨rfl, rfl⟩
              rw [HQ.out]
              have hl1 := HX.wt.look j hj2
              have hl2 := HX.wt.lookA j hj2
              obtain ⟨AV, cV, eV, _⟩ := q_slice (HX.wt.bk.q j hj2)
              rw [eV] at hl1
              by_cases hwt : (wt j).length = 0
              · rw [hwt] at hl1
                go_wp2_with fail
                clear hwt
                rcases HPUT.out with ⟨hv, hA', ht'⟩ | ⟨hv, hA', ht'⟩
                · obtain ⟨s', v, e1⟩ : ∃ s' v, s.put (q : Int) hash id = (s', v) := ⟨_, _, rfl⟩
                  have hsn' : s'.n = N := by have := oput_n s q hash id; rw [e1] at this; exact this.trans hsn
                  rw [e1] at hv hA' ht'
                  dsimp only at hv hA' ht'
                  subst hv
                  have HA' := Lib.hid hA'
                  have HT' := Lib.hid (ht'.trans HT.out)
                  clear hA' ht' hl1 hl2
                  refine (wput q hash id HX HA.out hi300 hh e1).mono ?_
                  clear HX
                  rintro e w4 ⟨rfl, HX⟩
                  clear e1
                  go_wp2
                  go_roundg (len - (i + 1))
                  case measure => omega
                  case rel => exact ⟨i + 1, s', n, V, wt, at', D, Da, by omega, by go_num, hsn', by omega, HA', HT', HX.wt⟩
                · obtain ⟨s', v, e1⟩ : ∃ s' v, s.put (q : Int) hash id = (s', v) := ⟨_, _, rfl⟩
                  have hsn' : s'.n = N := by have := oput_n s q hash id; rw [e1] at this; exact this.trans hsn
                  rw [e1] at hv hA' ht'
                  dsimp only at hv hA' ht'
                  subst hv
                  have HA' := Lib.hid hA'
                  have HT' : Hid (tot s'.rows = TW (fun k => if k = j then wt j ++ [id] else wt k)) := Lib.hid (by
                    rw [TW_set wt j hj2, ht', HT.out, List.length_append]
                    show TW wt + 1 = TW wt - ((wt j).length : Int) + (((wt j).length + 1 : Nat) : Int)
                    omega)
                  clear hA' ht' hl1 hl2
                  refine (wput q hash id HX HA.out hi300 hh e1).mono ?_
                  clear HX
                  rintro e w4 ⟨rfl, HX⟩
                  clear e1
                  obtain ⟨A9, c9, A', c', w5, w6, eV', run1, run2, ⟨V', D', HW5⟩, _⟩ := HX.wt.more (by omega) j hj2 id (by omega)
                  obtain ⟨w7, run3, ⟨Da', HW7⟩, _⟩ := HW5.updA (by unfold maxLen; omega) j hj2 q (WalkArith.wf_i64 (by omega))
                  have hl9 := HX.wt.look j hj2
                  rw [eV'] at hl9
                  obtain ⟨y1, y2, y3, y4⟩ := wcells HX
                  dsimp only at y1 y2 y3 y4
                  have R1 := Lib.hid run1
                  have HW' := Lib.hid HW7
                  clear run1 HW5 HW7 HX eV'
                  generalize hLL : (wt j).length = LL at *
                  go_wp2_with (at_builtin; refine wpList_app rfl _ _ 39 rfl (.slice A9 LL c9) (.slice (some ⟨w4.heap.size, 0, none⟩) 1 1) (.slice A' (LL + 1) c') _ w5 rfl rfl R1.out ?_)
                  go_roundg (len - (i + 1))
                  case measure => omega
                  case rel => exact ⟨i + 1, s', n + 1 + 1, V', _, _, D', Da', by omega, by go_num, hsn', by omega, HA', HT', HW'.out⟩
              · have hat := HAT.out (fun e => hwt (by rw [e]; rfl))
                rw [hat] at hl2
                have d1 : decide (0 < (wt j).length) = true := decide_eq_true (by omega)
                go_wp2_with fail
                clear hwt
                rcases HPUT.out with ⟨hv, hA', ht'⟩ | ⟨hv, hA', ht'⟩
                · obtain ⟨s', v, e1⟩ : ∃ s' v, s.put (q : Int) hash id = (s', v) := ⟨_, _, rfl⟩
                  have hsn' : s'.n = N := by have := oput_n s q hash id; rw [e1] at this; exact this.trans hsn
                  rw [e1] at hv hA' ht'
                  dsimp only at hv hA' ht'
                  subst hv
                  have HA' := Lib.hid hA'
                  have HT' := Lib.hid (ht'.trans HT.out)
                  clear hA' ht' hl1 hl2
                  refine (wput q hash id HX HA.out hi300 hh e1).mono ?_
                  clear HX
                  rintro e w4 ⟨rfl, HX⟩
                  clear e1
                  go_wp2
                  go_roundg (len - (i + 1))
                  case measure => omega
                  case rel => exact ⟨i + 1, s', n, V, wt, at', D, Da, by omega, by go_num, hsn', by omega, HA', HT', HX.wt⟩
                · obtain ⟨s', v, e1⟩ : ∃ s' v, s.put (q : Int) hash id = (s', v) := ⟨_, _, rfl⟩
                  have hsn' : s'.n = N := by have := oput_n s q hash id; rw [e1] at this; exact this.trans hsn
                  rw [e1] at hv hA' ht'
                  dsimp only at hv hA' ht'
                  subst hv
                  have HA' := Lib.hid hA'
                  have HT' : Hid (tot s'.rows = TW (fun k => if k = j then wt j ++ [id] else wt k)) := Lib.hid (by
                    rw [TW_set wt j hj2, ht', HT.out, List.length_append]
                    show TW wt + 1 = TW wt - ((wt j).length : Int) + (((wt j).length + 1 : Nat) : Int)
                    omega)
                  clear hA' ht' hl1 hl2
                  refine (wput q hash id HX HA.out hi300 hh e1).mono ?_
                  clear HX
                  rintro e w4 ⟨rfl, HX⟩
                  clear e1
                  obtain ⟨A9, c9, A', c', w5, w6, eV', run1, run2, ⟨V', D', HW5⟩, _⟩ := HX.wt.more (by omega) j hj2 id (by omega)
                  obtain ⟨w7, run3, ⟨Da', HW7⟩, _⟩ := HW5.updA (by unfold maxLen; omega) j hj2 q (WalkArith.wf_i64 (by omega))
                  have hl9 := HX.wt.look j hj2
                  rw [eV'] at hl9
                  obtain ⟨y1, y2, y3, y4⟩ := wcells HX
                  dsimp only at y1 y2 y3 y4
                  have R1 := Lib.hid run1
                  have HW' := Lib.hid HW7
                  clear run1 HW5 HW7 HX eV'
                  generalize hLL : (wt j).length = LL at *
                  go_wp2_with (at_builtin; refine wpList_app rfl _ _ 39 rfl (.slice A9 LL c9) (.slice (some ⟨w4.heap.size, 0, none⟩) 1 1) (.slice A' (LL + 1) c') _ w5 rfl rfl R1.out ?_)
                  go_roundg (len - (i + 1))
                  case measure => omega
                  case rel => exact ⟨i + 1, s', n + 1 + 1, V', _, _, D', Da', by omega, by go_num, hsn', by omega, HA', HT', HW'.out⟩
      · clear hig HON HS
        have hn8 : s.n ≤ 8 := HA.out.n8
        have hT0 := LS_bd wt (Maps.has D)
        have hTW : TW wt ≤ N * 256 := by
          have h1 := (ns_bd HA.out (k := s.n) (Nat.le_refl _)).2
          rw [ns_all HA.out, HT.out, hsn] at h1
          exact h1
        have hlast : ns s N = TW wt := by rw [← hsn, ns_all HA.out, HT.out]
        have hlen : ∀ c, c < N → s.len c = ns s (c + 1) - ns s c := fun c hc => by
          have := ns_succ HA.out (k := c) (by omega)
          omega
        have hnb : ∀ c, c ≤ N → 0 ≤ ns s c ∧ ns s c ≤ 2048 := fun c hc => by
          have := ns_bd HA.out (k := c) (by omega)
          omega
        have H1 := Lib.hid hlen
        have H2 := Lib.hid hnb
        have h00 : ns s 0 = 0 := rfl
        clear hlen hnb
        obtain ⟨wo, rfl⟩ : ∃ wo : World, wo = wr := ⟨_, rfl⟩
        have HWo := HW
        go_wp2
        go_loopg [21, 22] N (fun g vl vc wr => ∃ c : Nat, c + g = N ∧ vc = .int .i64 c ∧ vl = .int .i64 (ns s c) ∧ wr = wo)
        case atStart => exact ⟨0, by omega, rfl, by rw [h00], rfl⟩
        case round =>
          obtain ⟨c, hcg, rfl, rfl, rfl⟩ := hrel
          by_cases hcN : c < N
          · go_wp2_with fail
            refine (wlen c HW hn8).mono ?_
            rintro e w4 ⟨rfl, rfl⟩
            have e1 := H1.out c hcN
            have e2 := H2.out c (by omega)
            have e3 := H2.out (c + 1) (by omega)
            generalize s.len c = lc at e1 ⊢
            generalize ns s c = n0 at e1 e2 ⊢
            obtain ⟨n1, hn1⟩ : ∃ n1, n1 = ns s (c + 1) := ⟨_, rfl⟩
            rw [← hn1] at e1 e3
            go_wp2
            go_roundg (N - (c + 1))
            case measure => omega
            case rel => exact ⟨c + 1, by omega, by go_num, by rw [← hn1, show n1 = n0 + lc by omega]; go_num, rfl⟩
          · obtain rfl : c = N := by omega
            rw [hlast]
            go_wp2_with (first | (at_range; refine wpList_range_own _ rfl _ 29 rfl 31 39 law31 Try.underlying29 RV mb n D rfl HW.bk.map ?_; intro w5 hrg0 hg0 hs0) | go_in)
            go_frame
            have HB0 : Below w.heap.size w w5 := HW.below.grown hg0 HW.below.size (fun k e => by cases e)
            have hbk := HW.bk
            have hL0 := LS_has hbk
            have HK := Lib.hid hbk
            have hrr : w.heap.size ≤ wr.heap.size := HW.below.size
            generalize wr.heap.size = r at hrr hrg0 HB0 ⊢
            obtain ⟨cnt0, hc0⟩ : ∃ cnt0, cnt0 = Maps.size D := ⟨_, rfl⟩
            rw [← hc0] at hrg0
            clear hc0 hbk
            go_loopg [21] cnt0 (fun g vl wr => ∃ left, wr.ranges Try.prog 31 RV mb r n D left g ∧ (∀ kl, left kl = true → Maps.has D kl = true) ∧ vl = .int .i64 (LS wt left) ∧ Hid (Below w.heap.size w wr))
            case atStart => exact ⟨_, hrg0, fun _ h => h, by rw [hL0], Lib.hid HB0⟩
            case round =>
              clear hrg0 HB0 hg0 hs0
              obtain ⟨left, hrg, hsub, rfl, HB⟩ := hrel
              have HS := Lib.hid hsub
              clear hsub
              go_wp2_with (first | (at_next; refine wpList_next_ranges _ rfl _ rfl 31 law31 RV (fun x : Int => .int .u32 x) (fun y : Sl => .slice y.A y.n y.c) (fun key kl h => by obtain ⟨x, rfl, _⟩ := keyOf_int_inv Try.underlying31 h; exact ⟨x, rfl⟩) (fun v y h => by obtain ⟨A, n', c', rfl, _⟩ := RV_inv h; exact ⟨⟨A, n', c'⟩, rfl⟩) mb r n D left _ rfl hrg (fun hc0 hl0 => ?_) (fun x y kl yy w6 cnt' hk hlk hv hat hrg1 hlt hg1 hs1 hen => ?_);
                                     (rw [LS_none wt left hl0]); rotate_left;
                                     (
                                       obtain ⟨j, cc, A, hj, rfl, e⟩ := HK.out.come hk (HS.out _ hlk) hv hat
                                       obtain ⟨A', n', c'⟩ := y
                                       dsimp only at e hen ⊢
                                       injection e with e1 e2 e3
                                       subst e1 e2 e3
                                       have hst := LS_strike wt left j hj hlk
                                       have hb1 := LS_bd wt left
                                       have hb2 := LS_bd wt (fun z => left z && !z.sameKey (kj j))
                                       have HB' := Lib.hid (HB.out.grown hg1 HB.out.size (fun k e => by injection e with e; subst e; exact hrr))
                                       have HR := Lib.hid hrg1
                                       have HS' : Hid (∀ kl, (left kl && !kl.sameKey (kj j)) = true → Maps.has D kl = true) := Lib.hid fun kl h => HS.out kl (by rw [Bool.and_eq_true] at h; exact h.1)
                                       obtain ⟨L1, hL1⟩ : ∃ L1, L1 = LS wt (fun z => left z && !z.sameKey (kj j)) := ⟨_, rfl⟩
                                       rw [← hL1] at hst hb2
                                       have HL1 := Lib.hid hL1
                                       clear hk hlk hv hat hrg1 hg1 hs1 hrg HB hL1
                                       generalize LS wt left = L0 at hst hb1 ⊢
                                       generalize (wt j).length = nl at hst hen ⊢); rotate_left))
              · refine (works_k w _ HB.out).mono ?_
                rintro e w7 ⟨rfl, hb⟩
                go_wp2
                go_ret
                exact ⟨rfl, hb⟩
              · go_wp2
                go_roundg cnt'
                case measure => omega
                case rel => exact ⟨_, HR.out, HS'.out, by rw [← HL1.out, hst]; try go_num, HB'⟩
end Go.Proofs.Ytggfjnicofgohaa.Sf
