import Derived.Test.YtbpinkelcbcpjaaAq
namespace Go.Proofs.Ytbpinkelcbcpjaa.Ni
open Go.RowKit Blk Go.Proofs.YtbpinkelcbcpjaaW.PrintWords
set_option linter.unusedVariables false

theorem tk_v (n : Int) (h : Nat) (hn : 0 ≤ n) : (tk n h : Int) = if n ≤ h then n else h := by
  rw [← tk_eq]
  unfold mn mx
  split <;> split <;> split <;> omega
theorem later' {n : Nat} {w w' : World} (h : Below n w w') {a : Addr} {v : Value} (ha : a.block < n) (hc : w.cell? a = some v) : w'.cell? a = some v := by
  rw [← hc]
  unfold World.cell?
  rw [h.block _ ha]
theorem cell_lt {w : World} {a : Addr} {v : Value} (h : w.cell? a = some v) : a.block < w.heap.size := by
  rcases Nat.lt_or_ge a.block w.heap.size with y | y
  · exact y
  · unfold World.cell? at h; rw [Array.getElem?_eq_none y] at h; cases h
theorem up2_len (lw : Nat → List ByteArray) (q : Nat) (hq : q < 2) (t : ByteArray) : ((up2 lw q (lw q ++ [t])) 0).length + ((up2 lw q (lw q ++ [t])) 1).length = (lw 0).length + (lw 1).length + 1 := by
  match q, hq with
  | 0, _ => rw [up2_same, up2_ne _ _ _ _ (by decide), List.length_append]; show _ + 1 + _ = _; omega
  | 1, _ => rw [up2_same, up2_ne _ _ _ _ (by decide), List.length_append]; show _ + (_ + 1) = _; omega
theorem wn_start {w0 w : World} {top b : Nat} {s : St} (h : Own w0 top b s w) : Wn w0 top b w.heap.size s (fun _ => .slice none 0 0) (fun _ => []) (w.alloc (.cells #[.slice none 0 0, .slice none 0 0] 65)) :=
  ⟨h.alloc _, Has.new w [.slice none 0 0, .slice none 0 0] 65, fun q _ => q_none _ _ _ _, fun i j _ _ _ k hk => absurd hk (by simp [Value.ownBlock]), h.tz⟩
set_option maxHeartbeats 20000000 in
set_option maxRecDepth 100000 in
theorem apart_k (a : Option Addr) (len cap : Nat) (z : Nat → ByteArray) (n : Int) (w : World) (hn : 0 ≤ n ∧ n ≤ 255) (ht : Op.Texts w a len z) (hl : len ≤ 9223372036854775807) :
    Calls Try.prog 7 #[.slice a len cap, .int .u8 n] w fun e w' => e = .returned (.bool true) ∧ Below w.heap.size w w' := by
  have HT := Lib.hid ht
  clear ht
  obtain ⟨N, hN⟩ : ∃ N : Nat, n.tmod 7 + 1 = N := ⟨(n.tmod 7 + 1).toNat, by rw [Int.tmod_eq_emod_of_nonneg hn.1]; omega⟩
  have hN1 : 1 ≤ N ∧ N ≤ 7 := by rw [Int.tmod_eq_emod_of_nonneg hn.1] at hN; omega
  have hNmod : n.tmod 7 = (N : Int) - 1 := by omega
  go_enter Try.func7, Try.ntmps7
  go_wp2
  go_loopg [5, 6] 200 (fun g vk vi wr => ∃ (i : Nat) (kk : Int), i + g = 200 ∧ vi = .int .i64 i ∧ vk = .int .i64 kk ∧ 0 ≤ kk ∧ kk ≤ i * 140737488355329 ∧ w = wr)
  case atStart => exact ⟨0, 0, by omega, rfl, rfl, by omega, by omega, rfl⟩
  case round =>
    obtain ⟨i, kk, hig, rfl, rfl, hk0, hk1, rfl⟩ := hrel
    by_cases hi : i < len ∧ i < 200
    · obtain ⟨hi1, hi2⟩ := hi
      obtain ⟨tb, off, rfl, hcell⟩ := HT.out.resolve_left (by omega)
      obtain ⟨hsz, ci⟩ := hcell i hi1
      have g1 : decide (i < len) = true := decide_eq_true hi1
      have g2 : decide (i < 200) = true := decide_eq_true hi2
      clear hcell
      generalize z i = zi at *
      go_wp2
      go_roundg (200 - (i + 1))
      case measure => omega
      case rel => exact ⟨i + 1, kk + 1 + (zi.size : Int), by omega, by go_num, by go_num, by omega, by omega, rfl⟩
    · by_cases h1 : len ≤ 100
      · by_cases h2 : kk ≤ 4096
        · have hi1 : ¬ i < len := by omega
          have g1 : decide (i < len) = false := decide_eq_false hi1
          clear hi
          go_wp2_with fail
          refine (new_o w w (Below.refl _ _) 2 200 (by decide) (by decide)).mono ?_
          rintro e w1 ⟨b, rfl, HO, _⟩
          have h2 := two_start
          generalize w1.heap.size = top at HO
          generalize fresh 2 200 = s0 at HO h2
          have HW0 := Lib.hid (wn_start HO)
          have HT2 := Lib.hid h2
          clear h2 HO
          go_wp2
          generalize w1.alloc _ = w2 at *
          generalize w1.heap.size = wb at *
          go_loopg [10] len (fun g vi wr => ∃ (i : Nat) (s : St) (v : Nat → Value) (lw : Nat → List ByteArray), i + g = len ∧ vi = .int .i64 i ∧ (lw 0).length + (lw 1).length = i ∧ Hid (Two s lw) ∧ Hid (Wn w top b wb s v lw wr))
          case atStart => exact ⟨0, s0, _, _, by omega, rfl, rfl, HT2, HW0⟩
          case round =>
            clear HT2 HW0
            obtain ⟨i, s, v, lw, hig, rfl, hlen, HT2, HW⟩ := hrel
            by_cases hi : i < len
            · obtain ⟨tb, off, rfl, hcell⟩ := HT.out.resolve_left (by omega)
              obtain ⟨hsz, ci⟩ := hcell i hi
              have hcl := cell_lt ci
              have ci1 := later' HW.out.own.below hcl ci
              have CI := Lib.hid ci
              have HCL := Lib.hid hcl
              clear hcell ci hcl
              generalize z i = zi at *
              obtain ⟨q, hq⟩ : ∃ q, q = zi.size % 2 := ⟨_, rfl⟩
              have hq2 : q < 2 := by omega
              have hq3 : (q : Int) < 2 := by omega
              have hmod : (zi.size : Int).tmod 2 = (q : Int) := by
                rw [hq, Int.tmod_eq_emod_of_nonneg (by omega)]
                rfl
              clear hq
              have hll : (lw q).length ≤ 100 := by
                have : q = 0 ∨ q = 1 := by omega
                rcases this with rfl | rfl <;> omega
              obtain ⟨e1, ht2⟩ := HT2.out.send HW.out.own.ok q hq2 zi (by omega)
              have HT3 := Lib.hid ht2
              have E1 := Lib.hid e1
              clear ht2 e1
              go_wp2_with fail
              refine (send_o HW.out.own q zi).mono ?_
              rintro e w3 ⟨rfl, HO3, hU⟩
              rw [E1.out]
              have HW3 := HW.out.byS HO3 hU
              have ci3 := later' HO3.below HCL.out CI.out
              have HO3s := Lib.hid (show w.heap.size ≤ w3.heap.size from HO3.below.size)
              clear hU HO3 ci1
              obtain ⟨A, c, A', c', V1, ev, hrun, x1, f1, HW4⟩ := HW3.more q hq2 zi (by omega)
              have y1 := (HW3.cell q hq2).1
              rw [ev] at y1
              have hwl := HW3.lt.1
              have htl : tb < w3.heap.size := Nat.lt_of_lt_of_le HCL.out HO3s.out
              have R1 := Lib.hid hrun
              have HW5 := Lib.hid HW4
              have hlen2 := up2_len lw q hq2 zi
              have HL2 := Lib.hid hlen2
              clear HW3 HW4 ev hrun hlen2
              generalize (lw q).length = m at *
              go_wp2
              go_region_law (refine step_app rfl (.tmp 76) (.tmp 81) 45 rfl (.slice A m c) (.slice (some ⟨w3.heap.size, 0, none⟩) 1 1) (.slice A' (m + 1) c') _ V1 (by simp [Act.eval]) (by simp [Act.eval]) R1.out ?_)
              all_goals
                go_wp2
                go_roundg (len - (i + 1))
                case measure => omega
                case rel => exact ⟨i + 1, _, _, _, by omega, by go_num, by rw [HL2.out]; omega, HT3, HW5⟩
            · obtain rfl : i = len := by omega
              clear hi
              have hl0 : ∀ j, j < 2 → (lw j).length ≤ 100 := fun j hj => by
                have : j = 0 ∨ j = 1 := by omega
                rcases this with rfl | rfl <;> omega
              have HL := Lib.hid hl0
              clear hl0
              obtain ⟨wo, rfl⟩ : ∃ wo : World, wo = wr := ⟨_, rfl⟩
              go_wp2
              go_loopg [12] 2 (fun g vq wr => ∃ (q : Nat) (s' : St) (l' : Nat → List ByteArray), q + g = 2 ∧ vq = .int .i64 q ∧ Hid (∀ j, q ≤ j → j < 2 → l' j = lw j) ∧ Hid (Two s' l') ∧ Hid (Wn w top b wb s' v lw wr))
              case atStart => exact ⟨0, s, lw, rfl, rfl, Lib.hid fun _ _ _ => rfl, HT2, HW⟩
              case round =>
                clear HT2 HW
                obtain ⟨q, s1, l1, hqg, rfl, HE, HT2, HW⟩ := hrel
                by_cases hq : q < 2
                · have hq3 : (q : Int) < 2 := by omega
                  obtain ⟨hwl, hvl⟩ := HW.out.lt
                  have HVL := Lib.hid hvl
                  obtain ⟨G, hG⟩ : ∃ G, G = wr.heap.size := ⟨_, rfl⟩
                  rw [← hG] at hwl HVL
                  have hGs : G ≤ wr.heap.size := by omega
                  have htG : top ≤ G := by rw [hG]; exact HW.out.own.tz
                  clear hG hvl
                  have he := HE.out q (Nat.le_refl _) hq
                  have HE2 : Hid (∀ j, q < j → j < 2 → l1 j = lw j) := Lib.hid fun j h1 h2 => HE.out j (by omega) h2
                  obtain ⟨wp, rfl⟩ : ∃ wp : World, wp = wr := ⟨_, rfl⟩
                  have hlq := HL.out q hq
                  go_wp2
                  go_loopg [13, 14] 200 (fun g vgot vi wr => ∃ (i : Nat) (A : Option Addr) (c : Nat) (got : List ByteArray) (s2 : St) (l2 : Nat → List ByteArray), i + g = 200 ∧ vi = .int .i64 i ∧ vgot = .slice A got.length c ∧ i ≤ got.length ∧ Hid (got ++ l2 q = lw q) ∧ Hid (∀ j, q < j → j < 2 → l2 j = lw j) ∧ Hid (Two s2 l2) ∧ Hid (Wn w top b wb s2 v lw wr) ∧ Hid (QRow wr G 9 1 (.slice A got.length c) got.length (strs got)) ∧ G ≤ wr.heap.size)
                  case atStart => exact ⟨0, none, 0, [], s1, l1, by omega, rfl, rfl, Nat.le_refl _, Lib.hid (by rw [List.nil_append]; exact he), HE2, HT2, HW, Lib.hid (q_none _ _ _ _), hGs⟩
                  case round =>
                    clear HT2 HW HE HE2 he hGs
                    obtain ⟨i, A, c, got, s2, l2, hig, rfl, rfl, hile, HC, HE, HT2, HW, HQ, hGs⟩ := hrel
                    have hlen2 : got.length + (l2 q).length = (lw q).length := by rw [← HC.out, List.length_append]
                    obtain ⟨Aw, cw, ev, _⟩ := q_slice (HW.out.row q hq)
                    have y1 := (HW.out.cell q hq).1
                    rw [ev] at y1
                    have EV := Lib.hid ev
                    clear ev
                    by_cases hlt : got.length < (lw q).length
                    · have hi2 : i < 200 := by omega
                      obtain ⟨e1, ht2⟩ := HT2.out.gone HW.out.own.ok q hq N
                      have hkv := tk_v (N : Int) (l2 q).length (by omega)
                      have hkle := tk_le (N : Int) (l2 q).length
                      have hk1 : 1 ≤ tk (N : Int) (l2 q).length := by
                        have : (1 : Int) ≤ (tk (N : Int) (l2 q).length : Int) := by rw [hkv]; split <;> omega
                        omega
                      have hkN : tk (N : Int) (l2 q).length ≤ N := by
                        have : (tk (N : Int) (l2 q).length : Int) ≤ N := by rw [hkv]; split <;> omega
                        omega
                      clear hkv
                      have hll : ((l2 q).take (tk (N : Int) (l2 q).length)).length = tk (N : Int) (l2 q).length := by rw [List.length_take]; omega
                      generalize tk (N : Int) (l2 q).length = k at *
                      have HT3 := Lib.hid ht2
                      have E1 := Lib.hid e1
                      clear ht2 e1
                      obtain ⟨got2, hgot2⟩ : ∃ got2, got2 = got ++ (l2 q).take k := ⟨_, rfl⟩
                      have hC2 : got2 ++ (up2 l2 q ((l2 q).drop k)) q = lw q := by
                        rw [up2_same, hgot2, List.append_assoc, List.take_append_drop]
                        exact HC.out
                      have hE2 : ∀ j, q < j → j < 2 → (up2 l2 q ((l2 q).drop k)) j = lw j := fun j h1 h2 => by
                        rw [up2_ne _ _ _ _ (by omega)]
                        exact HE.out j h1 h2
                      have hgl : got2.length = got.length + k := by rw [hgot2, List.length_append, hll]
                      have HC2 := Lib.hid hC2
                      have HE2 := Lib.hid hE2
                      clear hC2 hE2
                      have hb1 : (got.length : Int) < ((lw q).length : Int) := by omega
                      go_wp2_with fail
                      refine (gone_o HW.out.own q N).mono ?_
                      rintro e w4 ⟨⟨Al, kl, hkl, rfl, hrow⟩, HO4, hU⟩
                      rw [E1.out, hll] at hkl
                      subst hkl
                      rw [E1.out] at hrow
                      have HW4 := HW.out.byS HO4 hU
                      have hQ4 := hU.q htG HQ.out
                      have hrow' : QRow w4 wr.heap.size 9 1 (.slice Al ((l2 q).take kl).length kl) ((l2 q).take kl).length (strs ((l2 q).take kl)) := by rw [hll]; exact hrow
                      obtain ⟨A', c', w5, hrun, hq5, hB5⟩ := got_more G A c got hQ4 Al kl ((l2 q).take kl) wr.heap.size hrow' (by omega) (by omega) (by omega) (Nat.le_trans hGs hU.size)
                      rw [← hgot2, hll] at hrun
                      rw [← hgot2] at hq5
                      have HW5 := Lib.hid (HW4.keep hwl HVL.out hB5)
                      have HQ5 := Lib.hid hq5
                      have R1 := Lib.hid hrun
                      have hs5 : G ≤ w5.heap.size := Nat.le_trans (Nat.le_trans hGs hU.size) hB5.size
                      have g5 : decide ((N : Int) < (kl : Int)) = false := decide_eq_false (by omega)
                      have g6 : ((kl : Int) == 0) = false := beq_eq_false_iff_ne.2 (by omega)
                      clear hrow hrow' HW4 hQ4 hrun hq5 hB5 HO4 hU y1 HC HE HT2 HW HQ hgot2 E1 hll
                      generalize got.length = m at *
                      go_wp2_with (at_builtin; refine wpList_app rfl _ _ 45 rfl (.slice A m c) (.slice Al kl kl) (.slice A' got2.length c') _ w5 rfl rfl R1.out ?_)
                      go_roundg (200 - (i + 1))
                      case measure => omega
                      case rel => exact ⟨i + 1, A', c', got2, _, _, by omega, by go_num, by rw [hgl], by omega, HC2, HE2, HT3, HW5, HQ5, hs5⟩
                    · have hnil : l2 q = [] := List.length_eq_zero_iff.1 (by omega)
                      have hgq : got = lw q := by
                        have := HC.out
                        rw [hnil, List.append_nil] at this
                        exact this
                      have hgl : got.length = (lw q).length := by omega
                      have hi2 : i < 200 := by omega
                      have hs := HT2.out.sends HW.out.own.ok q hq
                      rw [hnil] at hs
                      have HS := Lib.hid hs
                      have HGQ := Lib.hid hgq
                      clear hs hgq hnil hlen2 hlt
                      rw [hgl]
                      rw [hgl] at HQ
                      clear hgl hile
                      go_wp2_with fail
                      refine (sends_o HW.out.own q).mono ?_
                      rintro e w4 ⟨rfl, rfl⟩
                      rw [HS.out]
                      clear y1
                      obtain ⟨M, hM⟩ : ∃ M, M = (lw q).length := ⟨_, rfl⟩
                      rw [← hM]
                      rw [← hM] at HQ
                      have HM := Lib.hid hM
                      have hM1 : M ≤ 100 := by omega
                      clear hM hlq
                      obtain ⟨wq, rfl⟩ : ∃ wq : World, wq = wr := ⟨_, rfl⟩
                      go_wp2
                      go_loopg [16] M (fun g vk wr => ∃ k : Nat, k + g = M ∧ vk = .int .i64 k ∧ Hid (Ch nob wq wr))
                      case atStart => exact ⟨0, by omega, rfl, Lib.hid (Ch.refl _ _)⟩
                      case round =>
                        obtain ⟨k, hkg, rfl, hCh⟩ := hrel
                        by_cases hk : k < M
                        · have hw6 := HW.out.still hCh.out
                          have y1 := (hw6.cell q hq).1
                          rw [EV.out, ← HM.out] at y1
                          have hr6 := hw6.row q hq
                          rw [EV.out, ← HM.out] at hr6
                          have hq6 : QRow wr G 9 1 (.slice A M c) M (strs got) := q_move HQ.out fun k hk => hCh.out.block k (q_lt HQ.out k hk) id
                          obtain ⟨gg, go, rfl, _, hcg⟩ := q_at hq6 (by omega)
                          obtain ⟨gw, ow, rfl, _, hcw⟩ := q_at hr6 (by omega)
                          obtain ⟨x, hx⟩ : ∃ x, (strs (lw q))[k]? = some (.string x) := by
                            unfold strs
                            rw [List.getElem?_map, List.getElem?_eq_getElem (by rw [← HM.out]; exact hk)]
                            exact ⟨_, rfl⟩
                          have c1 := (hcw k _ hx).1
                          rw [← HGQ.out] at hx
                          have c2 := (hcg k _ hx).1
                          have hk3 : (k : Int) < (M : Int) := by omega
                          clear hcw hcg hx hr6 hq6 hw6
                          go_wp2
                          go_quiet (fail)
                          go_wp2
                          go_roundg (M - (k + 1))
                          case measure => omega
                          case rel => exact ⟨k + 1, by omega, by go_num, Lib.hid (hCh.out.drewN _)⟩
                        · obtain rfl : k = M := by omega
                          go_wp2
                          go_roundg (2 - (q + 1))
                          case measure => omega
                          case rel => exact ⟨q + 1, s2, l2, by omega, by go_num, Lib.hid fun j h1 h2 => HE.out j (by omega) h2, HT2, Lib.hid (HW.out.still hCh.out)⟩
                · obtain rfl : q = 2 := by omega
                  have h00 := HT2.out.waits 0 (by decide)
                  have h01 := HT2.out.waits 1 (by decide)
                  have H00 := Lib.hid h00
                  have H01 := Lib.hid h01
                  clear h00 h01
                  go_wp2_with fail
                  refine (waits_o HW.out.own 0).mono ?_
                  rintro e w4 ⟨rfl, rfl⟩
                  rw [show s1.waits 0 = 0 from H00.out]
                  go_wp2_with fail
                  refine (waits_o HW.out.own 1).mono ?_
                  rintro e w4 ⟨rfl, rfl⟩
                  rw [show s1.waits 1 = 0 from H01.out]
                  go_wp2_with fail
                  refine (works_k w wr HW.out.own.below).mono ?_
                  rintro e w5 ⟨rfl, hb⟩
                  go_wp2
                  go_ret
                  exact ⟨rfl, hb⟩
        · have g2 : decide ((4096 : Int) < kk) = true := decide_eq_true (by omega)
          go_wp2_with fail
          refine (works_k w w (Below.refl _ _)).mono ?_
          rintro e w3 ⟨rfl, hb⟩
          go_wp2
          go_ret
          exact ⟨rfl, hb⟩
      · by_cases hi1 : i < len
        · have g1 : decide (i < len) = true := decide_eq_true hi1
          obtain rfl : i = 200 := by omega
          clear hi
          go_wp2_with fail
          refine (works_k w w (Below.refl _ _)).mono ?_
          rintro e w3 ⟨rfl, hb⟩
          go_wp2
          go_ret
          exact ⟨rfl, hb⟩
        · have g1 : decide (i < len) = false := decide_eq_false hi1
          clear hi
          go_wp2_with fail
          refine (works_k w w (Below.refl _ _)).mono ?_
          rintro e w3 ⟨rfl, hb⟩
          go_wp2
          go_ret
          exact ⟨rfl, hb⟩
end Go.Proofs.Ytbpinkelcbcpjaa.Ni
