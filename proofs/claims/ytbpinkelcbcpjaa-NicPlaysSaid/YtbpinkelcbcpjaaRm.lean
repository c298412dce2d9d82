import Derived.Test.YtbpinkelcbcpjaaRz
import Derived.Test.YtbpinkelcbcpjaaAq
namespace Go.Proofs.Ytbpinkelcbcpjaa.Ni
open Go.RowKit Blk Go.Proofs.YtbpinkelcbcpjaaW.PrintWords
set_option linter.unusedVariables false

theorem later3 {n : Nat} {w w' : World} (h : Below n w w') {a : Addr} {v : Value} (hn : n = w.heap.size) (hc : w.cell? a = some v) : w'.cell? a = some v := by
  have : a.block < n := by
    rcases Nat.lt_or_ge a.block w.heap.size with y | y
    · omega
    · unfold World.cell? at hc; rw [Array.getElem?_eq_none y] at hc; cases hc
  rw [← hc]
  unfold World.cell?
  rw [h.block _ this]
theorem rai_mono (s : St) (i : Nat) : ∀ k, (s.rai i).length ≤ (s.rai (i + k)).length ∧ ∀ j, j < (s.rai i).length → (s.rai (i + k))[j]? = (s.rai i)[j]? := by
  intro k
  induction k with
  | zero => exact ⟨Nat.le_refl _, fun _ _ => rfl⟩
  | succ k ih =>
    rw [← Nat.add_assoc]
    have e : s.rai (i + k + 1) = if (s.qu ((i + k : Nat) : Int)).up then s.rai (i + k) ++ [((i + k : Nat) : Int)] else s.rai (i + k) := rfl
    rw [e]
    split
    · refine ⟨by rw [List.length_append]; show _ ≤ _ + 1; have := ih.1; omega, fun j hj => ?_⟩
      rw [List.getElem?_append_left (by have := ih.1; omega)]
      exact ih.2 j hj
    · exact ih
/-- What a raised queue's number is in the list. -/
theorem rai_at (s : St) (i N : Nat) (hi : i < N) (hu : (s.qu i).up = true) : (s.rai i).length < (s.rai N).length ∧ (s.rai N)[(s.rai i).length]? = some (i : Int) ∧ (s.rai (i + 1)).length = (s.rai i).length + 1 := by
  have h1 : s.rai (i + 1) = s.rai i ++ [(i : Int)] := by
    show (if (s.qu i).up then _ else _) = _
    rw [if_pos hu]
  have hl : (s.rai (i + 1)).length = (s.rai i).length + 1 := by rw [h1, List.length_append]; rfl
  obtain ⟨k, rfl⟩ : ∃ k, N = i + 1 + k := ⟨N - (i + 1), by omega⟩
  obtain ⟨m1, m2⟩ := rai_mono s (i + 1) k
  refine ⟨by omega, ?_, hl⟩
  rw [m2 _ (by omega), h1, List.getElem?_append_right (Nat.le_refl _), Nat.sub_self]
  rfl
theorem rai_no (s : St) (i : Nat) (hu : (s.qu i).up = false) : s.rai (i + 1) = s.rai i := by
  show (if (s.qu i).up then _ else _) = _
  rw [if_neg (by rw [hu]; exact Bool.false_ne_true)]
set_option maxHeartbeats 2000000 in
theorem new_bad (q z : Int) (w : World) (h : ¬ ((1 ≤ q ∧ q ≤ 8) ∧ 1 ≤ z ∧ z ≤ 256)) : Calls Try.prog 10 #[.int .i64 q, .int .i64 z] w fun e w' => e = .returned (.tuple #[.pointer none, .int .i64 2]) ∧ w = w' := by
  by_cases h1 : q < 1
  · go_enter Try.func10, Try.ntmps10
    go_wp2
    go_ret2
    exact ⟨rfl, rfl⟩
  · by_cases h2 : 8 < q
    · go_enter Try.func10, Try.ntmps10
      go_wp2
      go_ret2
      exact ⟨rfl, rfl⟩
    · by_cases h3 : z < 1
      · go_enter Try.func10, Try.ntmps10
        go_wp2
        go_ret2
        exact ⟨rfl, rfl⟩
      · have h4 : 256 < z := by omega
        clear h
        go_enter Try.func10, Try.ntmps10
        go_wp2
        go_ret2
        exact ⟨rfl, rfl⟩
set_option maxHeartbeats 20000000 in
set_option maxRecDepth 100000 in
theorem plays_k (qn z0 : Int) (a : Option Addr) (len cap : Nat) (z : Nat → Op.Stp) (w : World) (hq : -9223372036854775808 ≤ qn ∧ qn ≤ 9223372036854775807) (hz0 : -9223372036854775808 ≤ z0 ∧ z0 ≤ 9223372036854775807) (hs : Op.Script w a len z) (hl : len ≤ 9223372036854775807) :
    Calls Try.prog 3 #[.int .i64 qn, .int .i64 z0, .slice a len cap] w fun e w' => e = .returned (.bool true) ∧ Below w.heap.size w w' := by
  have HS := Lib.hid hs
  clear hs
  go_enter Try.func3, Try.ntmps3
  go_wp2_with fail
  refine (heavy_c a len cap z w HS.out hl).mono ?_
  rintro e w1 ⟨t, rfl, rfl, hlt⟩
  cases t with
  | true =>
    clear hlt
    go_wp2_with fail
    refine (works_k w w (Below.refl _ _)).mono ?_
    rintro e w3 ⟨rfl, hb⟩
    go_wp2
    go_ret
    exact ⟨rfl, hb⟩
  | false =>
    have h300 : len ≤ 300 := hlt rfl
    clear hlt
    by_cases hg : (1 ≤ qn ∧ qn ≤ 8) ∧ 1 ≤ z0 ∧ z0 ≤ 256
    · obtain ⟨⟨g1, g2⟩, g3, g4⟩ := hg
      obtain ⟨N, rfl⟩ := Int.eq_ofNat_of_zero_le (show 0 ≤ qn by omega)
      obtain ⟨M, rfl⟩ := Int.eq_ofNat_of_zero_le (show 0 ≤ z0 by omega)
      have hN1 : 1 ≤ N ∧ N ≤ 8 := by omega
      have hM1 : 1 ≤ M ∧ M ≤ 256 := by omega
      go_wp2_with fail
      refine (new_o w w (Below.refl _ _) N M hN1 hM1).mono ?_
      rintro e w1 ⟨b, rfl, HO, _⟩
      have HP := Lib.hid HO.pa
      clear HO
      go_wp2_with fail
      refine (r_new N M w1 hN1 hM1.2).mono ?_
      rintro e w2 ⟨rfl, hre, hbl⟩
      have hbt : Bt w w1.heap.size b w1.heap.size w1.heap.size N (fresh N M) (rfresh N M) w2 :=
        ⟨HP.out.keep hbl (fun k c t ht hc => hbl.block k (Array.getElem?_eq_some_iff.1 hc).1), hre, sim_start N M hN1.1, Nat.le_refl _, hbl.size, List.length_replicate ..⟩
      have HB0 := Lib.hid hbt
      clear hbt hre hbl HP
      generalize fresh N M = s0 at *
      generalize rfresh N M = r0 at *
      generalize w1.heap.size = top at *
      go_wp2
      go_loopg [10] len (fun g vi wr => ∃ (i : Nat) (s : St) (r : Rf), i + g = len ∧ vi = .int .i64 i ∧ Hid (Bt w top b top top N s r wr))
      case atStart => exact ⟨0, s0, r0, by omega, rfl, HB0⟩
      case round =>
        clear HB0
        obtain ⟨i, s, r, hig, rfl, HB⟩ := hrel
        by_cases hi : i < len
        · obtain ⟨bb, off, ea, hcell⟩ := HS.out.resolve_left (by omega)
          subst ea
          obtain ⟨hok, k0, k1, k2, k3, k4, k5⟩ := hcell i hi
          have q0 := later3 HB.out.p.below rfl k0
          have q1 := later3 HB.out.p.below rfl k1
          have q2 := later3 HB.out.p.below rfl k2
          have q3 := later3 HB.out.p.below rfl k3
          have q4 := later3 HB.out.p.below rfl k4
          have q5 := later3 HB.out.p.below rfl k5
          have HOK := Lib.hid hok
          clear k0 k1 k2 k3 k4 k5 hcell hok
          go_wp2_with fail
          refine (does_c HB.out (z i) HOK.out).mono ?_
          clear q0 q1 q2 q3 q4 q5 HB
          rintro e w3 ⟨rfl, s', r', hb'⟩
          have HB := Lib.hid hb'
          clear hb'
          go_wp2_with fail
          refine (raised_p HB.out.p).mono ?_
          rintro e w4 ⟨⟨AR, cR, rfl, hqr⟩, hC⟩
          have HB4 : Hid (Bt w top b top top N s' r' w4) := Lib.hid ⟨HB.out.p.still hC, HB.out.re.still hC, HB.out.sim, HB.out.tb, Nat.le_trans HB.out.bz hC.size, HB.out.n⟩
          have HQR := Lib.hid hqr
          have hRL : s'.raised.length = (s'.rai N).length := by unfold St.raised; rw [HB.out.n]
          have hR8 : (s'.rai N).length ≤ 8 := Nat.le_trans (rai_len s' N) hN1.2
          rw [hRL] at HQR ⊢
          rw [show s'.raised = s'.rai N by unfold St.raised; rw [HB.out.n]] at HQR
          clear hC hqr HB hRL
          obtain ⟨wo, rfl⟩ : ∃ wo : World, wo = w4 := ⟨_, rfl⟩
          go_wp2
          go_loopg [12, 13] (N + 2) (fun g vk vq wr => ∃ t : Nat, t + g = N + 2 ∧ vq = .int .i64 ((t : Int) - 1) ∧ vk = .int .i64 ((s'.rai (min (t - 1) N)).length : Nat) ∧ wr = wo)
          case atStart => exact ⟨0, by omega, rfl, rfl, rfl⟩
          case round =>
            obtain ⟨t, htg, rfl, rfl, rfl⟩ := hrel
            by_cases ht : t < N + 2
            · by_cases hin : 1 ≤ t ∧ t ≤ N
              · obtain ⟨j, rfl⟩ : ∃ j, t = j + 1 := ⟨t - 1, by omega⟩
                have hj : j < N := by omega
                rw [show (((j + 1 : Nat) : Int) - 1) = (j : Int) by omega, show min (j + 1 - 1) N = j by omega]
                obtain ⟨g, R⟩ := HB4.out.re
                have hins : r'.ins.length = N := HB4.out.sim.n.trans HB4.out.n
                have hjs : j < s'.qs.length := by rw [HB4.out.n]; exact hj
                have hQok := (HB4.out.p.ok.at' j hjs).2
                obtain ⟨A1, C1, hv1, _⟩ := R.ri.at' j (by rw [hins]; exact hj)
                obtain ⟨A2, C2, hv2, _⟩ := R.ro.at' j (by rw [R.lo, hins]; exact hj)
                have hl1 : (r'.ins.getD j []).length = (s'.qu j).an := by rw [HB4.out.sim.ci j hjs, hQok.ci_len]
                have hl2 : (r'.outs.getD j []).length = (s'.qu j).on := by rw [HB4.out.sim.co j hjs, hQok.co_len]
                rw [hl1] at hv1
                rw [hl2] at hv2
                have e2 := R.c2
                have e3 := R.c3
                have e4 := R.c4
                rw [hins] at e2 e3 e4
                have x2 := (q_cell R.hi j _ hv1).1
                have x3 := (q_cell R.ho j _ hv2).1
                have x4 : wr.cell? ⟨g.ab, g.ao + j, none⟩ = some (.bool (s'.qu j).armed) := by
                  refine (q_cell R.ha j _ ?_).1
                  have hla : j < r'.armed.length := by rw [R.la, hins]; exact hj
                  have := HB4.out.sim.ar j hjs
                  rw [List.getElem?_map, List.getElem?_eq_getElem hla]
                  rw [List.getD_eq_getElem?_getD, List.getElem?_eq_getElem hla] at this
                  exact congrArg some (congrArg Value.bool this)
                have HIS := Lib.hid (r_is R (j : Int))
                have HD : Hid (decide (0 ≤ (j : Int) ∧ (j : Int) < (r'.ins.length : Int)) = true) := Lib.hid (decide_eq_true (by rw [hins]; omega))
                have hjis : s'.is j := by unfold St.is; rw [HB4.out.n]; omega
                have HW := Lib.hid (show s'.waits j = ((s'.qu j).an : Int) from if_pos hjis)
                have HSN := Lib.hid (show s'.sends j = ((s'.qu j).on : Int) from if_pos hjis)
                have hup : (s'.qu j).up = ((s'.qu j).armed && decide (0 < (s'.qu j).an)) := rfl
                have hna := hQok.na
                have hno := hQok.no
                have hsz := HB4.out.p.ok.s8
                have HUP : Hid ((s'.qu j).up = true → (s'.rai j).length < (s'.rai N).length ∧ (s'.rai N)[(s'.rai j).length]? = some (j : Int) ∧ (s'.rai (j + 1)).length = (s'.rai j).length + 1) := Lib.hid (rai_at s' j N hj)
                have HNO : Hid ((s'.qu j).up = false → s'.rai (j + 1) = s'.rai j) := Lib.hid (rai_no s' j)
                have hk8 : (s'.rai j).length ≤ 8 := Nat.le_trans (rai_len s' j) (by omega)
                have hj3 : (j : Int) < (N : Int) := by omega
                clear hv1 hv2 hl1 hl2 hjs hQok R hjis
                generalize (s'.qu j).an = an at *
                generalize (s'.qu j).on = on at *
                generalize (s'.qu j).armed = arm at *
                go_wp2_with fail
                refine HIS.out.mono ?_
                rintro e w9 ⟨rfl, rfl⟩
                rw [HD.out]
                by_cases hu : (s'.qu j).up = true
                · obtain ⟨u1, u2, u3⟩ := HUP.out hu
                  rw [hup] at hu
                  rw [Bool.and_eq_true] at hu
                  obtain ⟨rfl, hp⟩ := hu
                  have hp0 : 0 < an := of_decide_eq_true hp
                  have hp' : (0 : Int) < (an : Int) := by omega
                  obtain ⟨gR, oR, rfl, _, hcR⟩ := q_at HQR.out (by omega)
                  have xR := (hcR (s'.rai j).length (.int .i64 j) (by rw [List.getElem?_map, u2]; rfl)).1
                  have U3 := Lib.hid u3
                  have u1' : ((s'.rai j).length : Int) < ((s'.rai N).length : Int) := by omega
                  have gU : decide ((s'.rai N).length ≤ (s'.rai j).length) = false := decide_eq_false (by omega)
                  clear hcR u2 u3 hp hup HUP HNO
                  generalize (s'.rai j).length = kk at *
                  generalize (s'.rai N).length = nn at *
                  go_wp2_with fail
                  refine (waits_p HB4.out.p j).mono ?_
                  rintro e w9 ⟨rfl, rfl⟩
                  rw [HW.out]
                  go_wp2_with fail
                  refine (sends_p HB4.out.p j).mono ?_
                  rintro e w9 ⟨rfl, rfl⟩
                  rw [HSN.out]
                  go_wp2
                  go_roundg (N + 2 - (j + 1 + 1))
                  case measure => omega
                  case rel => exact ⟨j + 1 + 1, by omega, by congr 1; first | omega | (simp; omega), (by rw [show min (j + 1 + 1 - 1) N = j + 1 by omega, U3.out]; try (first | rfl | go_num)), rfl⟩
                · have hu' : (s'.qu j).up = false := Bool.eq_false_iff.2 hu
                  have U3 := Lib.hid (congrArg List.length (HNO.out hu'))
                  rw [hup] at hu'
                  clear hu HUP HNO hup
                  generalize (s'.rai j).length = kk at *
                  cases arm with
                  | false =>
                    go_wp2_with fail
                    refine (waits_p HB4.out.p j).mono ?_
                    rintro e w9 ⟨rfl, rfl⟩
                    rw [HW.out]
                    go_wp2_with fail
                    refine (sends_p HB4.out.p j).mono ?_
                    rintro e w9 ⟨rfl, rfl⟩
                    rw [HSN.out]
                    go_wp2
                    go_roundg (N + 2 - (j + 1 + 1))
                    case measure => omega
                    case rel => exact ⟨j + 1 + 1, by omega, by congr 1; first | omega | (simp; omega), (by rw [show min (j + 1 + 1 - 1) N = j + 1 by omega, U3.out]; try (first | rfl | go_num)), rfl⟩
                  | true =>
                    have hp0 : an = 0 := by
                      have : decide (0 < an) = false := by simpa using hu'
                      have := of_decide_eq_false this
                      omega
                    subst hp0
                    go_wp2_with fail
                    refine (waits_p HB4.out.p j).mono ?_
                    rintro e w9 ⟨rfl, rfl⟩
                    rw [HW.out]
                    go_wp2_with fail
                    refine (sends_p HB4.out.p j).mono ?_
                    rintro e w9 ⟨rfl, rfl⟩
                    rw [HSN.out]
                    go_wp2
                    go_roundg (N + 2 - (j + 1 + 1))
                    case measure => omega
                    case rel => exact ⟨j + 1 + 1, by omega, by congr 1; first | omega | (simp; omega), (by rw [show min (j + 1 + 1 - 1) N = j + 1 by omega, U3.out]; try (first | rfl | go_num)), rfl⟩
              · obtain ⟨g, R⟩ := HB4.out.re
                have hins : r'.ins.length = N := HB4.out.sim.n.trans HB4.out.n
                have HIS := Lib.hid (r_is R ((t : Int) - 1))
                have HD : Hid (decide (0 ≤ (t : Int) - 1 ∧ (t : Int) - 1 < (r'.ins.length : Int)) = false) := Lib.hid (decide_eq_false (by rw [hins]; omega))
                have hjis : ¬ s'.is ((t : Int) - 1) := by unfold St.is; rw [HB4.out.n]; omega
                have HW := Lib.hid (show s'.waits ((t : Int) - 1) = 0 from if_neg hjis)
                have HSN := Lib.hid (show s'.sends ((t : Int) - 1) = 0 from if_neg hjis)
                have hmin : min (t + 1 - 1) N = min (t - 1) N := by omega
                clear R hins hjis
                have htt : (t : Int) ≤ 9 := by omega
                have HKM : Hid ((s'.rai (min (t + 1 - 1) N)).length = (s'.rai (min (t - 1) N)).length) := Lib.hid (by rw [hmin])
                obtain ⟨tq, htq⟩ : ∃ tq, tq = (t : Int) - 1 := ⟨_, rfl⟩
                have HTQ := Lib.hid htq
                have htq2 : tq ≤ (N : Int) := by omega
                have htq3 : -1 ≤ tq := by omega
                rw [← htq] at HIS HD HW HSN ⊢
                clear htq
                generalize (s'.rai (min (t - 1) N)).length = kk at *
                go_wp2_with fail
                refine HIS.out.mono ?_
                rintro e w9 ⟨rfl, rfl⟩
                rw [HD.out]
                go_wp2_with fail
                refine (waits_p HB4.out.p tq).mono ?_
                rintro e w9 ⟨rfl, rfl⟩
                rw [HW.out]
                go_wp2_with fail
                refine (sends_p HB4.out.p tq).mono ?_
                rintro e w9 ⟨rfl, rfl⟩
                rw [HSN.out]
                go_wp2
                go_roundg (N + 2 - (t + 1))
                case measure => omega
                case rel => exact ⟨t + 1, by omega, by rw [HTQ.out]; congr 1; first | omega | (simp; omega), (by rw [HKM.out]; try (first | rfl | go_num)), rfl⟩
            · obtain rfl : t = N + 2 := by omega
              rw [show min (N + 2 - 1) N = N by omega]
              clear ht HQR
              generalize (s'.rai N).length = nn at *
              go_wp2_with fail
              refine (dropped_p HB4.out.p).mono ?_
              rintro e w9 ⟨rfl, hC⟩
              have HB9 : Hid (Bt w top b top top N s' r' w9) := Lib.hid ⟨HB4.out.p.still hC, HB4.out.re.still hC, HB4.out.sim, HB4.out.tb, Nat.le_trans HB4.out.bz hC.size, HB4.out.n⟩
              obtain ⟨g, R⟩ := HB9.out.re
              have c5 : w9.cell? ⟨top, 5, none⟩ = some (.int .u64 s'.came) := by rw [← HB9.out.sim.came]; exact R.hb.cell rfl
              have c6 : w9.cell? ⟨top, 6, none⟩ = some (.int .u64 s'.sent) := by rw [← HB9.out.sim.sent]; exact R.hb.cell rfl
              clear R hC HB4
              generalize s'.came = cm at c5 ⊢
              generalize s'.sent = sn at c6 ⊢
              go_wp2
              go_roundg (len - (i + 1))
              case measure => omega
              case rel => exact ⟨i + 1, s', r', by omega, by go_num, HB9⟩
        · obtain rfl : i = len := by omega
          go_wp2_with fail
          refine (works_k w wr HB.out.p.below).mono ?_
          rintro e w3 ⟨rfl, hb⟩
          go_wp2
          go_ret
          exact ⟨rfl, hb⟩
    · go_wp2_with fail
      refine (new_bad qn z0 w hg).mono ?_
      rintro e w1 ⟨rfl, rfl⟩
      by_cases h1 : qn < 1
      · go_wp2_with fail
        refine (works_k w w (Below.refl _ _)).mono ?_
        rintro e w3 ⟨rfl, hb⟩
        go_wp2
        go_ret
        exact ⟨rfl, hb⟩
      · by_cases h2 : 8 < qn
        · go_wp2_with fail
          refine (works_k w w (Below.refl _ _)).mono ?_
          rintro e w3 ⟨rfl, hb⟩
          go_wp2
          go_ret
          exact ⟨rfl, hb⟩
        · by_cases h3 : z0 < 1
          · go_wp2_with fail
            refine (works_k w w (Below.refl _ _)).mono ?_
            rintro e w3 ⟨rfl, hb⟩
            go_wp2
            go_ret
            exact ⟨rfl, hb⟩
          · have h4 : 256 < z0 := by omega
            clear hg
            go_wp2_with fail
            refine (works_k w w (Below.refl _ _)).mono ?_
            rintro e w3 ⟨rfl, hb⟩
            go_wp2
            go_ret
            exact ⟨rfl, hb⟩
end Go.Proofs.Ytbpinkelcbcpjaa.Ni
