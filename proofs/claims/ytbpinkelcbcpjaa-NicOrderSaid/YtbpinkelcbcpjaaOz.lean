import Derived.Test.YtbpinkelcbcpjaaOn
import Derived.Test.YtbpinkelcbcpjaaHv
import Derived.Deep.Cut
import Derived.Deep.CutRange
namespace Go.Proofs.Ytbpinkelcbcpjaa.Ni
open Go.RowKit Blk Go.Maps Go.ChangeMaps Go.Proofs.YtbpinkelcbcpjaaW.PrintWords
set_option linter.unusedVariables false

theorem later2 {n : Nat} {w w' : World} (h : Below n w w') {a : Addr} {v : Value} (hn : n = w.heap.size) (hc : w.cell? a = some v) : w'.cell? a = some v := by
  have : a.block < n := by
    rcases Nat.lt_or_ge a.block w.heap.size with y | y
    · omega
    · unfold World.cell? at hc; rw [Array.getElem?_eq_none y] at hc; cases hc
  rw [← hc]
  unfold World.cell?
  rw [h.block _ this]
theorem up2_up2 {α : Type} (f : Nat → α) (k : Nat) (a b : α) : up2 (up2 f k a) k b = up2 f k b := by
  funext i
  by_cases e : i = k
  · subst e; rw [up2_same, up2_same]
  · rw [up2_ne _ _ _ _ e, up2_ne _ _ _ _ e, up2_ne _ _ _ _ e]
theorem up2_self {α : Type} (f : Nat → α) (k : Nat) : up2 f k (f k) = f := by
  funext i
  by_cases e : i = k
  · subst e; rw [up2_same]
  · rw [up2_ne _ _ _ _ e]
theorem Vk.short {N : Nat} {p : Nat → Nat} {C : Nat → List Sl} {wt : Nat → List ByteArray} (v : Vk N p C wt) (h : Nat) (hh : h < 4294967296) : (wt h).length ≤ (C (p h)).length := by
  rw [v.wt h hh]
  unfold ofH
  rw [List.length_map]
  exact List.length_filter_le _ _
/-- A step's cells. -/
def stc (x : Op.Stp) : List Value := [.int .i64 x.d, .int .u32 x.hash, .string x.s, .int .i64 x.q, .int .i64 x.n, .bool x.odd]
theorem row_keep {w w' : World} {base n size : Nat} {v : Value} {xs : List Value} (h : QRow w base 53 size v n xs) (hk : ∀ k c T, T ≠ 9 → Has w k c T → Has w' k c T) : QRow w' base 53 size v n xs :=
  q_move h fun k hk' => by
    obtain ⟨_, cc, hc⟩ := q_typed h k hk'
    have h1 : Has w k cc.toList 53 := hc
    exact (hk k _ 53 (by decide) h1).trans hc.symm
set_option maxHeartbeats 20000000 in
set_option maxRecDepth 100000 in
theorem order_k (c m : Int) (a : Option Addr) (len cap : Nat) (z : Nat → Op.Stp) (w : World) (hc : 0 ≤ c ∧ c ≤ 255) (hm : 0 ≤ m ∧ m ≤ 255) (hs : Op.Script w a len z) (hl : len ≤ 9223372036854775807) :
    Calls Try.prog 6 #[.int .u8 c, .int .u8 m, .slice a len cap] w fun e w' => e = .returned (.bool true) ∧ Below w.heap.size w w' := by
  have HS := Lib.hid hs
  clear hs
  obtain ⟨N, hN⟩ : ∃ N : Nat, c.tmod 8 + 1 = N := ⟨(c.tmod 8 + 1).toNat, by rw [Int.tmod_eq_emod_of_nonneg hc.1]; omega⟩
  have hN1 : 1 ≤ N ∧ N ≤ 8 := by rw [Int.tmod_eq_emod_of_nonneg hc.1] at hN; omega
  have hNmod : c.tmod 8 = (N : Int) - 1 := by omega
  obtain ⟨M, hM⟩ : ∃ M : Nat, m.tmod 20 + 1 = M := ⟨(m.tmod 20 + 1).toNat, by rw [Int.tmod_eq_emod_of_nonneg hm.1]; omega⟩
  have hM1 : 1 ≤ M ∧ M ≤ 20 := by rw [Int.tmod_eq_emod_of_nonneg hm.1] at hM; omega
  have hMmod : m.tmod 20 = (M : Int) - 1 := by omega
  have hmm := @run_makeMap Try.prog
  go_enter Try.func6, Try.ntmps6
  go_wp2_with fail
  refine (heavy_c a len cap z w HS.out hl).mono ?_
  rintro e w1 ⟨t, rfl, rfl, hlt⟩
  cases t with
  | true =>
    clear hlt
    go_wp2_with fail
    refine (works_k w w (Below.refl _ _)).mono ?_
    rintro e w3 ⟨rfl, hb⟩
    go_wp2
    go_ret
    exact ⟨rfl, hb⟩
  | false =>
    have h300 : len ≤ 300 := hlt rfl
    clear hlt
    go_wp2_with fail
    refine (new_o w w (Below.refl _ _) N M hN1 (by omega)).mono ?_
    rintro e w1 ⟨b, rfl, HO, _⟩
    generalize w1.heap.size = top at HO
    obtain ⟨p, hp, ho⟩ := oq_start N M HO.ok
    have HM0 := Lib.hid (mt_start HO)
    have HQ0 := Lib.hid ho
    have HV0 := Lib.hid (vk_start N p hp)
    have HPN := Lib.hid hp
    clear HO ho hp
    go_wp2
    generalize fresh N M = s0 at *
    generalize World.alloc w1 _ = w2 at *
    generalize w1.heap.size = mb at *
    go_loopg [12] len (fun g vi wr => ∃ (i : Nat) (s : St) (n : Nat) (V : Nat → Value) (wt : Nat → List ByteArray) (D : DataW Value) (C : Nat → List Sl), i + g = len ∧ vi = .int .i64 i ∧ n ≤ 256 * i ∧ Hid (Oq s N M p C) ∧ Hid (Vk N p C wt) ∧ Hid (Mt w top b mb s n V wt D wr))
    case atStart => exact ⟨0, s0, 0, _, _, _, _, by omega, rfl, by omega, HQ0, HV0, HM0⟩
    case round =>
      clear HQ0 HV0 HM0
      obtain ⟨i, s, n, V, wt, D, C, hig, rfl, hn, HQ, HV, HM⟩ := hrel
      by_cases hi : i < len
      · obtain ⟨bb, off, ea, hcell⟩ := HS.out.resolve_left (by omega)
        subst ea
        obtain ⟨hok, k0, k1, k2, k3, k4, k5⟩ := hcell i hi
        have q0 := later2 HM.out.own.below rfl k0
        have q1 := later2 HM.out.own.below rfl k1
        have q2 := later2 HM.out.own.below rfl k2
        have q3 := later2 HM.out.own.below rfl k3
        have q4 := later2 HM.out.own.below rfl k4
        have q5 := later2 HM.out.own.below rfl k5
        clear k0 k1 k2 k3 k4 k5 hcell
        obtain ⟨⟨d, hash, st, x, y, odd⟩, hz⟩ : ∃ y, y = z i := ⟨_, rfl⟩
        rw [← hz] at hok q0 q1 q2 q3 q4 q5
        obtain ⟨hh, _, _, _⟩ := hok
        clear hz
        dsimp only at hh q0 q1 q2 q3 q4 q5
        obtain ⟨h, rfl⟩ := Int.eq_ofNat_of_zero_le hh.1
        have hh2 : h < 4294967296 := by omega
        obtain ⟨kx, hkx⟩ : ∃ kx, kx = wr.heap.size := ⟨_, rfl⟩
        obtain ⟨W, hW⟩ : ∃ W, W = wr.alloc (.cells #[.int .i64 d, .int .u32 (h : Int), .string st, .int .i64 x, .int .i64 y, .bool odd] 34) := ⟨_, rfl⟩
        have HMW : Hid (Mt w top b mb s n V wt D W) := Lib.hid (by rw [hW]; exact HM.out.still ((Ch.refl _ _).alloc _))
        have HXW : Hid (Has W kx [.int .i64 d, .int .u32 (h : Int), .string st, .int .i64 x, .int .i64 y, .bool odd] 34) := Lib.hid (by rw [hW, hkx]; exact Has.new wr _ 34)
        have hkt : top ≤ kx := by rw [hkx]; exact HM.out.own.tz
        have hkm : mb ≠ kx := by rw [hkx]; have := HM.out.lt; omega
        have hnb : n ≤ 100000 := by omega
        clear HM
        by_cases hd0 : d = 0
        · as_aux_lemma =>
          subst hd0
          go_wp2_with fail
          rw [← hW, ← hkx]
          clear q0 q1 q2 q3 q4 q5
          refine (slot_c h st W).mono ?_
          rintro e w3 ⟨rfl, hC⟩
          have HM3 := Lib.hid (HMW.out.still hC)
          have HX3 := Lib.hid (HXW.out.ch hC id)
          clear hC HMW HXW hW hkx
          go_wp2_with fail
          refine (came_o HM3.out.own ((h : Int), st) hh).mono ?_
          rintro e w4 ⟨rfl, HO4, hU⟩
          have HM4 := Lib.hid (HM3.out.byS HO4 hU)
          have HX4 := Lib.hid (HX3.out.ch hU (by omega))
          have hph : s.pick (h : Int) = (p h : Int) := HQ.out.p h
          have hpN := HPN.out h
          rw [show s.pick ((h : Int), st).1 = (p h : Int) from hph]
          rcases HQ.out.come HM3.out.own.ok HPN.out h st with ⟨e1, hq1, _, hw1⟩ | ⟨e1, hq1⟩
          · have HQ' := Lib.hid hq1
            have HW1 := Lib.hid hw1
            rw [e1]
            clear hq1 hw1 e1 HO4 hU HM3 HX3 hph
            generalize p h = ph at *
            have gA : decide (N ≤ ph) = false := decide_eq_false (by omega)
            have gB : decide ((ph : Int) < 0) = false := decide_eq_false (by omega)
            go_wp2_with fail
            refine (waits_o HM4.out.own ph).mono ?_
            rintro e w9 ⟨rfl, rfl⟩
            rw [HW1.out]
            have HM' := HM4
            have HV' := HV
            obtain ⟨wo, rfl⟩ : ∃ wo : World, wo = w4 := ⟨_, rfl⟩
            go_wp2
            go_loopg [20] N (fun g vq wr => ∃ q : Nat, q + g = N ∧ vq = .int .i64 q ∧ wr = wo)
            case atStart => exact ⟨0, by omega, rfl, rfl⟩
            case round =>
              obtain ⟨qq, hqg, rfl, rfl⟩ := hrel
              by_cases hqq : qq < N
              · have hw := HQ'.out.waits HM'.out.own.ok qq hqq
                have hw2 := (HQ'.out.an HM'.out.own.ok qq hqq).2.1
                obtain ⟨ks, hsd, hks⟩ := HQ'.out.sends HM'.out.own.ok qq hqq
                have HW := Lib.hid hw
                have HSD := Lib.hid hsd
                clear hw hsd
                go_wp2_with fail
                refine (waits_o HM'.out.own qq).mono ?_
                rintro e w9 ⟨rfl, rfl⟩
                rw [HW.out]
                obtain ⟨lq, hlq⟩ : ∃ lq, lq = (C qq).length := ⟨_, rfl⟩
                rw [← hlq] at hw2 ⊢
                have g1 : decide ((M : Int) < (lq : Int)) = false := decide_eq_false (by omega)
                clear hlq HW
                go_wp2_with fail
                refine (sends_o HM'.out.own qq).mono ?_
                rintro e w9 ⟨rfl, rfl⟩
                rw [HSD.out]
                have g2 : decide ((M : Int) < (ks : Int)) = false := decide_eq_false (by omega)
                go_wp2
                go_roundg (N - (qq + 1))
                case measure => omega
                case rel => exact ⟨qq + 1, by omega, by go_num, rfl⟩
              · obtain rfl : qq = N := by omega
                clear hqq
                go_wp2
                go_roundg (len - (i + 1))
                case measure => omega
                case rel => exact ⟨i + 1, _, _, _, _, _, _, by omega, by go_num, by omega, HQ', HV', HM'⟩
          · have HQ' := Lib.hid hq1
            rw [e1]
            have hsh : (wt h).length ≤ 1000 := by
              have := HV.out.short h hh2
              have := (HQ.out.an HM3.out.own.ok (p h) hpN).2.1
              omega
            obtain ⟨A, cA, A', cA', v1, w2, eV, hrun, keep1, hrun2, ⟨V', D', hmt⟩, keep2⟩ := HM4.out.more (by omega) h hh2 st (by omega)
            have L1 := (HM4.out.still (Ch.refl _ _).drew).bk.look h hh2
            have L2 := (HM4.out.still (((Ch.refl nob w4).alloc (.cells #[.string st] 9)).drew)).bk.look h hh2
            rw [eV] at L1 L2
            have c1 : w4.cell? ⟨kx, 1, none⟩ = some (.int .u32 (h : Int)) := HX4.out.cell rfl
            have c2 : w4.cell? ⟨kx, 2, none⟩ = some (.string st) := HX4.out.cell rfl
            have hkl : kx < w4.heap.size := HX4.out.lt
            have d1 : v1.cell? ⟨kx, 1, none⟩ = some (.int .u32 (h : Int)) := (keep1 _ _ _ (by decide) HX4.out).cell rfl
            have HM' := Lib.hid hmt
            have HV' := Lib.hid (HV.out.come h hh2 st)
            have R1 := Lib.hid hrun
            clear hq1 e1 HO4 hU HM3 HX3 hph hrun keep1 keep2 eV hmt
            generalize (wt h).length = m2 at *
            have P1 := Lib.hid hig
            have P2 := Lib.hid hn
            have P3 := Lib.hid hi
            have P4 := Lib.hid hpN
            have P5 := Lib.hid hM1
            have P6 := Lib.hid h300
            have P7 := Lib.hid hN1
            clear hnb hsh hig hn hi hkt hkm hh2 hpN hl h300 hc hm hN1 hM1 hNmod hMmod hN hM
            go_upto_if 74 with (fail)
            go_cut [] from 75 to 85 (fun wc => wc = w2)
            case first =>
              go_wp2
              go_region_law (refine step_app rfl (.tmp 81) (.tmp 84) 45 rfl (.slice A m2 cA) (.slice (some ⟨w4.heap.size, 0, none⟩) 1 1) (.slice A' (m2 + 1) cA') _ v1 (by simp [Act.eval]) (by simp [Act.eval]) R1.out ?_)
              all_goals
                go_wp2_with fail
                go_meet
                case rel => rfl
            case rest =>
              subst hcut
              have hig := P1.out
              have hn := P2.out
              have hi := P3.out
              have hpN := P4.out
              have hM1 := P5.out
              have h300 := P6.out
              have hN1 := P7.out
              clear L1 L2 c1 c2 d1 hrun2 hkl R1 P1 P2 P3 P4 P5 P6 P7
              generalize p h = ph at *
              have gA : decide (N ≤ ph) = false := decide_eq_false (by omega)
              have gB : decide ((ph : Int) < 0) = false := decide_eq_false (by omega)
              go_wp2
              obtain ⟨wo, rfl⟩ : ∃ wo : World, wo = wc := ⟨_, rfl⟩
              go_wp2
              go_loopg [20] N (fun g vq wr => ∃ q : Nat, q + g = N ∧ vq = .int .i64 q ∧ wr = wo)
              case atStart => exact ⟨0, by omega, rfl, rfl⟩
              case round =>
                obtain ⟨qq, hqg, rfl, rfl⟩ := hrel
                by_cases hqq : qq < N
                · have hw := HQ'.out.waits HM'.out.own.ok qq hqq
                  have hw2 := (HQ'.out.an HM'.out.own.ok qq hqq).2.1
                  obtain ⟨ks, hsd, hks⟩ := HQ'.out.sends HM'.out.own.ok qq hqq
                  have HW := Lib.hid hw
                  have HSD := Lib.hid hsd
                  clear hw hsd
                  go_wp2_with fail
                  refine (waits_o HM'.out.own qq).mono ?_
                  rintro e w9 ⟨rfl, rfl⟩
                  rw [HW.out]
                  obtain ⟨lq, hlq⟩ : ∃ lq, lq = (up2 C ph (C ph ++ [((h : Int), st)]) qq).length := ⟨_, rfl⟩
                  rw [← hlq] at hw2 ⊢
                  have g1 : decide ((M : Int) < (lq : Int)) = false := decide_eq_false (by omega)
                  clear hlq HW
                  go_wp2_with fail
                  refine (sends_o HM'.out.own qq).mono ?_
                  rintro e w9 ⟨rfl, rfl⟩
                  rw [HSD.out]
                  have g2 : decide ((M : Int) < (ks : Int)) = false := decide_eq_false (by omega)
                  go_wp2
                  go_roundg (N - (qq + 1))
                  case measure => omega
                  case rel => exact ⟨qq + 1, by omega, by go_num, rfl⟩
                · obtain rfl : qq = N := by omega
                  clear hqq
                  go_wp2
                  go_roundg (len - (i + 1))
                  case measure => omega
                  case rel => exact ⟨i + 1, _, _, _, _, _, _, by omega, by go_num, by omega, HQ', HV', HM'⟩
        · by_cases hd1 : d = 1
          · as_aux_lemma =>
            subst hd1
            have c3 : W.cell? ⟨kx, 3, none⟩ = some (.int .i64 x) := HXW.out.cell rfl
            have c4 : W.cell? ⟨kx, 4, none⟩ = some (.int .i64 y) := HXW.out.cell rfl
            go_wp2_with fail
            rw [← hW, ← hkx]
            clear q0 q1 q2 q3 q4 q5
            refine (poll_o HMW.out.own x y).mono ?_
            rintro e w4 ⟨⟨A, kk, hkk, rfl, hrow⟩, HO4, hU⟩
            have HM4 := Lib.hid (HMW.out.byS HO4 hU)
            clear c3 c4 hW hkx HXW
            rcases HQ.out.poll HMW.out.own.ok x y with ⟨e1, e2⟩ | ⟨ii, k, hii, hk, e2, hq1⟩
            · rw [e2] at hkk
              obtain rfl : kk = 0 := hkk
              rw [e1] at HM4
              clear e1 e2 hrow HO4 hU HMW
              have HM' := HM4
              have HQ' := HQ
              have HV' := HV
              generalize (s.poll x y).2.2 = er
              go_wp2
              go_loopg [18] 0 (fun g vj wr => vj = .int .i64 0 ∧ wr = w4)
              case atStart => exact ⟨rfl, rfl⟩
              case round =>
                obtain ⟨rfl, rfl⟩ := hrel
                go_wp2
                obtain ⟨wo, rfl⟩ : ∃ wo : World, wo = wr := ⟨_, rfl⟩
                go_wp2
                go_loopg [20] N (fun g vq wr => ∃ q : Nat, q + g = N ∧ vq = .int .i64 q ∧ wr = wo)
                case atStart => exact ⟨0, by omega, rfl, rfl⟩
                case round =>
                  obtain ⟨qq, hqg, rfl, rfl⟩ := hrel
                  by_cases hqq : qq < N
                  · have hw := HQ'.out.waits HM'.out.own.ok qq hqq
                    have hw2 := (HQ'.out.an HM'.out.own.ok qq hqq).2.1
                    obtain ⟨ks, hsd, hks⟩ := HQ'.out.sends HM'.out.own.ok qq hqq
                    have HW := Lib.hid hw
                    have HSD := Lib.hid hsd
                    clear hw hsd
                    go_wp2_with fail
                    refine (waits_o HM'.out.own qq).mono ?_
                    rintro e w9 ⟨rfl, rfl⟩
                    rw [HW.out]
                    obtain ⟨lq, hlq⟩ : ∃ lq, lq = (C qq).length := ⟨_, rfl⟩
                    rw [← hlq] at hw2 ⊢
                    have g1 : decide ((M : Int) < (lq : Int)) = false := decide_eq_false (by omega)
                    clear hlq HW
                    go_wp2_with fail
                    refine (sends_o HM'.out.own qq).mono ?_
                    rintro e w9 ⟨rfl, rfl⟩
                    rw [HSD.out]
                    have g2 : decide ((M : Int) < (ks : Int)) = false := decide_eq_false (by omega)
                    go_wp2
                    go_roundg (N - (qq + 1))
                    case measure => omega
                    case rel => exact ⟨qq + 1, by omega, by go_num, rfl⟩
                  · obtain rfl : qq = N := by omega
                    clear hqq
                    go_wp2
                    go_roundg (len - (i + 1))
                    case measure => omega
                    case rel => exact ⟨i + 1, _, _, _, _, _, _, by omega, by go_num, by omega, HQ', HV', HM'⟩
            · have HQ' := Lib.hid hq1
              have hCl := (HQ.out.an HMW.out.own.ok ii hii).2.1
              have hkl : kk = k := by rw [hkk, e2, List.length_take]; omega
              subst hkl
              rw [e2] at hrow
              have HR0 := Lib.hid hrow
              have HV0 : Hid (Vk N p (up2 C ii ((C ii).drop 0)) wt) := Lib.hid (by rw [List.drop_zero, up2_self]; exact HV.out)
              clear hq1 e2 hkk hrow HO4 hU HMW HV HQ
              generalize (s.poll x y).2.2 = er at *
              generalize (s.poll x y).1 = s' at *
              generalize W.heap.size = G at HR0
              go_wp2
              go_loopg [18] kk (fun g vj wr => ∃ (j n2 : Nat) (V2 : Nat → Value) (wt2 : Nat → List ByteArray) (D2 : DataW Value), j + g = kk ∧ vj = .int .i64 j ∧ n2 ≤ n + j ∧ Hid (Vk N p (up2 C ii ((C ii).drop j)) wt2) ∧ Hid (Mt w top b mb s' n2 V2 wt2 D2 wr) ∧ Hid (QRow wr G 53 2 (.slice A kk kk) kk (flat ((C ii).take kk))))
              case atStart => exact ⟨0, n, _, _, _, by omega, rfl, by omega, HV0, HM4, HR0⟩
              case round =>
                clear HV0 HM4 HR0
                obtain ⟨j, n2, V2, wt2, D2, hjg, rfl, hn2, HV2, HM2, HR2⟩ := hrel
                by_cases hj : j < kk
                · obtain ⟨e, he⟩ : ∃ e, (C ii)[j]? = some e := ⟨_, List.getElem?_eq_getElem (by omega)⟩
                  have hdrop : (C ii).drop j = e :: (C ii).drop (j + 1) := by
                    rw [List.drop_eq_getElem_cons (by omega)]
                    have := (List.getElem?_eq_some_iff.1 he).2
                    rw [this]
                  obtain ⟨h2, hh3, ex, ew, hv⟩ := HV2.out.head ii hii e ((C ii).drop (j + 1)) (by rw [up2_same]; exact hdrop)
                  rw [up2_up2] at hv
                  have HV3 := Lib.hid hv
                  obtain ⟨g, o, rfl, _, hcg⟩ := q_at HR2.out (by omega)
                  obtain ⟨d0, d1⟩ := flat_at ((C ii).take kk) j e (by rw [List.getElem?_take_of_lt hj]; exact he)
                  have c0 : wr.cell? ⟨g, o + j * 2, none⟩ = some (.int .u32 (h2 : Int)) := by rw [← ex]; exact (hcg _ _ d0).1
                  have c1 : wr.cell? ⟨g, o + j * 2 + 1, none⟩ = some (.string e.2) := by rw [Nat.add_assoc]; exact (hcg _ _ d1).1
                  obtain ⟨r, hr⟩ : ∃ r, r = ofH h2 ((C ii).drop (j + 1)) := ⟨_, rfl⟩
                  rw [← hr] at ew HV3
                  have hrl : r.length ≤ 1000 := by
                    have := HV2.out.short h2 hh3
                    rw [ew] at this
                    have h5 : ((up2 C ii ((C ii).drop j)) (p h2)).length ≤ M := by
                      by_cases e5 : p h2 = ii
                      · rw [e5, up2_same, List.length_drop]; omega
                      · rw [up2_ne _ _ _ _ e5]
                        have h6 := HQ'.out.an HM2.out.own.ok (p h2) (HPN.out h2)
                        rw [up2_ne _ _ _ _ e5] at h6
                        exact h6.2.1
                    have h7 : r.length + 1 ≤ ((up2 C ii ((C ii).drop j)) (p h2)).length := this
                    omega
                  generalize e.2 = tx at *
                  clear hcg d0 d1 hdrop he hv hr ex HV2
                  obtain ⟨g2, o2, c2, _, _, _, eV, cw, _⟩ := (HM2.out.still (Ch.refl nob wr).drew).less (by omega) h2 hh3 tx r ew
                  have L1 := HM2.out.bk.look h2 hh3
                  rw [eV] at L1
                  have CW : wr.cell? ⟨g2, o2, none⟩ = some (.string tx) := cw
                  have EV := Lib.hid eV
                  have EW := Lib.hid ew
                  clear cw eV ew
                  obtain ⟨rl, hrl2⟩ : ∃ rl, rl = r.length := ⟨_, rfl⟩
                  have HRL := Lib.hid hrl2
                  rw [← hrl2] at L1 hrl
                  clear hrl2
                  have z0 : ((rl : Int) + 1 == 0) = false := beq_eq_false_iff_ne.2 (by omega)
                  have z1 : (((rl + 1 : Nat) : Int) == 0) = false := beq_eq_false_iff_ne.2 (by omega)
                  go_wp2
                  go_quiet (fail)
                  go_wp2
                  clear L1 CW z0 z1
                  generalize hW6 : World.drewN _ _ = W6
                  have HM6 := HM2.out.still (show Ch nob wr W6 by rw [← hW6]; exact (Ch.refl _ _).drewN _)
                  have HR6 : Hid (QRow W6 G 53 2 (.slice (some ⟨g, o, none⟩) kk kk) kk (flat ((C ii).take kk))) := Lib.hid (by rw [← hW6]; exact HR2.out)
                  have c0' : W6.cell? ⟨g, o + j * 2, none⟩ = some (.int .u32 (h2 : Int)) := by rw [← hW6]; exact c0
                  clear hW6 c0 c1 HM2 HR2
                  obtain ⟨g3, o3, c3, A', c', w7, eV3, _, hcut, hrun, ⟨V', D', hmt⟩, keep⟩ := (HM6.still (Ch.refl nob W6).drew).less (by omega) h2 hh3 tx r EW.out
                  rw [EV.out] at eV3
                  injection eV3 with e3 e4 e5
                  injection e3 with e3
                  injection e3 with e6 e7
                  subst e5 e6 e7
                  rw [← HRL.out] at hcut hrun
                  have HM7 := Lib.hid hmt
                  have HR7 := Lib.hid (row_keep HR6.out keep)
                  clear e4 hmt keep HR6 HM6 HRL EV EW
                  go_region
                  all_goals
                    clear c0' hcut hrun
                    go_wp2
                    go_roundg (kk - (j + 1))
                    case measure => omega
                    case rel => exact ⟨j + 1, n2 + 1, _, _, _, by omega, by go_num, by omega, HV3, HM7, HR7⟩
                · obtain rfl : j = kk := by omega
                  have HM' := HM2
                  have HV' := HV2
                  clear hj
                  go_wp2
                  obtain ⟨wo, rfl⟩ : ∃ wo : World, wo = wr := ⟨_, rfl⟩
                  go_wp2
                  go_loopg [20] N (fun g vq wr => ∃ q : Nat, q + g = N ∧ vq = .int .i64 q ∧ wr = wo)
                  case atStart => exact ⟨0, by omega, rfl, rfl⟩
                  case round =>
                    obtain ⟨qq, hqg, rfl, rfl⟩ := hrel
                    by_cases hqq : qq < N
                    · have hw := HQ'.out.waits HM'.out.own.ok qq hqq
                      have hw2 := (HQ'.out.an HM'.out.own.ok qq hqq).2.1
                      obtain ⟨ks, hsd, hks⟩ := HQ'.out.sends HM'.out.own.ok qq hqq
                      have HW := Lib.hid hw
                      have HSD := Lib.hid hsd
                      clear hw hsd
                      go_wp2_with fail
                      refine (waits_o HM'.out.own qq).mono ?_
                      rintro e w9 ⟨rfl, rfl⟩
                      rw [HW.out]
                      obtain ⟨lq, hlq⟩ : ∃ lq, lq = (up2 C ii ((C ii).drop j) qq).length := ⟨_, rfl⟩
                      rw [← hlq] at hw2 ⊢
                      have g1 : decide ((M : Int) < (lq : Int)) = false := decide_eq_false (by omega)
                      clear hlq HW
                      go_wp2_with fail
                      refine (sends_o HM'.out.own qq).mono ?_
                      rintro e w9 ⟨rfl, rfl⟩
                      rw [HSD.out]
                      have g2 : decide ((M : Int) < (ks : Int)) = false := decide_eq_false (by omega)
                      go_wp2
                      go_roundg (N - (qq + 1))
                      case measure => omega
                      case rel => exact ⟨qq + 1, by omega, by go_num, rfl⟩
                    · obtain rfl : qq = N := by omega
                      clear hqq
                      go_wp2
                      go_roundg (len - (i + 1))
                      case measure => omega
                      case rel => exact ⟨i + 1, _, _, _, _, _, _, by omega, by go_num, by omega, HQ', HV', HM'⟩
          · by_cases hd2 : d = 2
            · as_aux_lemma =>
              subst hd2
              go_wp2_with fail
              rw [← hW, ← hkx]
              clear q0 q1 q2 q3 q4 q5
              refine (send_o HMW.out.own x st).mono ?_
              rintro e w4 ⟨rfl, HO4, hU⟩
              have HM' := Lib.hid (HMW.out.byS HO4 hU)
              have HQ' := Lib.hid (HQ.out.send HMW.out.own.ok x st)
              have HV' := HV
              clear HO4 hU HMW HXW hW hkx
              generalize (s.send x st).2 = er at *
              generalize (s.send x st).1 = s' at *
              obtain ⟨wo, rfl⟩ : ∃ wo : World, wo = w4 := ⟨_, rfl⟩
              go_wp2
              go_loopg [20] N (fun g vq wr => ∃ q : Nat, q + g = N ∧ vq = .int .i64 q ∧ wr = wo)
              case atStart => exact ⟨0, by omega, rfl, rfl⟩
              case round =>
                obtain ⟨qq, hqg, rfl, rfl⟩ := hrel
                by_cases hqq : qq < N
                · have hw := HQ'.out.waits HM'.out.own.ok qq hqq
                  have hw2 := (HQ'.out.an HM'.out.own.ok qq hqq).2.1
                  obtain ⟨ks, hsd, hks⟩ := HQ'.out.sends HM'.out.own.ok qq hqq
                  have HW := Lib.hid hw
                  have HSD := Lib.hid hsd
                  clear hw hsd
                  go_wp2_with fail
                  refine (waits_o HM'.out.own qq).mono ?_
                  rintro e w9 ⟨rfl, rfl⟩
                  rw [HW.out]
                  obtain ⟨lq, hlq⟩ : ∃ lq, lq = (C qq).length := ⟨_, rfl⟩
                  rw [← hlq] at hw2 ⊢
                  have g1 : decide ((M : Int) < (lq : Int)) = false := decide_eq_false (by omega)
                  clear hlq HW
                  go_wp2_with fail
                  refine (sends_o HM'.out.own qq).mono ?_
                  rintro e w9 ⟨rfl, rfl⟩
                  rw [HSD.out]
                  have g2 : decide ((M : Int) < (ks : Int)) = false := decide_eq_false (by omega)
                  go_wp2
                  go_roundg (N - (qq + 1))
                  case measure => omega
                  case rel => exact ⟨qq + 1, by omega, by go_num, rfl⟩
                · obtain rfl : qq = N := by omega
                  clear hqq
                  go_wp2
                  go_roundg (len - (i + 1))
                  case measure => omega
                  case rel => exact ⟨i + 1, _, _, _, _, _, _, by omega, by go_num, by omega, HQ', HV', HM'⟩
            · as_aux_lemma =>
              have HM' := HMW
              have HQ' := HQ
              have HV' := HV
              go_wp2_with fail
              rw [← hW]
              clear q0 q1 q2 q3 q4 q5 hW hkx HXW HMW
              obtain ⟨wo, rfl⟩ : ∃ wo : World, wo = W := ⟨_, rfl⟩
              go_wp2
              go_loopg [20] N (fun g vq wr => ∃ q : Nat, q + g = N ∧ vq = .int .i64 q ∧ wr = wo)
              case atStart => exact ⟨0, by omega, rfl, rfl⟩
              case round =>
                obtain ⟨qq, hqg, rfl, rfl⟩ := hrel
                by_cases hqq : qq < N
                · have hw := HQ'.out.waits HM'.out.own.ok qq hqq
                  have hw2 := (HQ'.out.an HM'.out.own.ok qq hqq).2.1
                  obtain ⟨ks, hsd, hks⟩ := HQ'.out.sends HM'.out.own.ok qq hqq
                  have HW := Lib.hid hw
                  have HSD := Lib.hid hsd
                  clear hw hsd
                  go_wp2_with fail
                  refine (waits_o HM'.out.own qq).mono ?_
                  rintro e w9 ⟨rfl, rfl⟩
                  rw [HW.out]
                  obtain ⟨lq, hlq⟩ : ∃ lq, lq = (C qq).length := ⟨_, rfl⟩
                  rw [← hlq] at hw2 ⊢
                  have g1 : decide ((M : Int) < (lq : Int)) = false := decide_eq_false (by omega)
                  clear hlq HW
                  go_wp2_with fail
                  refine (sends_o HM'.out.own qq).mono ?_
                  rintro e w9 ⟨rfl, rfl⟩
                  rw [HSD.out]
                  have g2 : decide ((M : Int) < (ks : Int)) = false := decide_eq_false (by omega)
                  go_wp2
                  go_roundg (N - (qq + 1))
                  case measure => omega
                  case rel => exact ⟨qq + 1, by omega, by go_num, rfl⟩
                · obtain rfl : qq = N := by omega
                  clear hqq
                  go_wp2
                  go_roundg (len - (i + 1))
                  case measure => omega
                  case rel => exact ⟨i + 1, _, _, _, _, _, _, by omega, by go_num, by omega, HQ', HV', HM'⟩
      · have hi0 : i = len := by omega
        clear hig HS hi0
        have hC0 : ∀ c, c < N → (C c).length ≤ 20 := fun c hc => by
          have := (HQ.out.an HM.out.own.ok c hc).2.1
          omega
        have HC0 := Lib.hid hC0
        have hTb : ∀ c, c ≤ N → 0 ≤ totC C c ∧ totC C c ≤ 160 := fun c hc => by
          have h1 := totC_bd C c 20 fun i hi => hC0 i (by omega)
          have h2 : (c : Int) * ((20 : Nat) : Int) ≤ 160 := by
            have : (c : Int) ≤ 8 := by omega
            have h3 : (c : Int) * 20 ≤ 8 * 20 := Int.mul_le_mul_of_nonneg_right this (by decide)
            have e : ((20 : Nat) : Int) = 20 := rfl
            rw [e]
            omega
          omega
        have HTB := Lib.hid hTb
        clear hC0 hTb
        have HW := HM
        obtain ⟨wo, rfl⟩ : ∃ wo : World, wo = wr := ⟨_, rfl⟩
        go_wp2
        go_loopg [21, 22] N (fun g vl vc wr => ∃ c : Nat, c + g = N ∧ vc = .int .i64 c ∧ vl = .int .i64 (totC C c) ∧ wr = wo)
        case atStart => exact ⟨0, by omega, rfl, rfl, rfl⟩
        case round =>
          obtain ⟨c, hcg, rfl, rfl, rfl⟩ := hrel
          by_cases hcN : c < N
          · have hw := HQ.out.waits HM.out.own.ok c hcN
            have HWT := Lib.hid hw
            clear hw
            go_wp2_with fail
            refine (waits_o HM.out.own c).mono ?_
            rintro e w4 ⟨rfl, rfl⟩
            rw [HWT.out]
            have e1 : totC C (c + 1) = totC C c + ((C c).length : Int) := rfl
            have e2 := HTB.out c (by omega)
            have e3 := HTB.out (c + 1) (by omega)
            obtain ⟨n1, hn1⟩ : ∃ n1, n1 = totC C (c + 1) := ⟨_, rfl⟩
            rw [← hn1] at e1 e3
            have HN1 := Lib.hid hn1
            clear hn1 HWT
            generalize (C c).length = lc at e1 ⊢
            generalize totC C c = n0 at e1 e2 ⊢
            go_wp2
            go_roundg (N - (c + 1))
            case measure => omega
            case rel => exact ⟨c + 1, by omega, by go_num, by rw [← HN1.out, show n1 = n0 + lc by omega]; try go_num, rfl⟩
          · obtain rfl : c = N := by omega
            have htb := HTB.out c (Nat.le_refl _)
            go_wp2_with (first | (at_range; refine wpList_range_own _ rfl _ 63 rfl 32 45 law32 Try.underlying63 RV mb n D rfl HM.out.bk.map ?_; intro w5 hrg0 hg0 hs0) | go_in)
            go_frame
            have HB0 : Below w.heap.size w w5 := HM.out.own.below.grown hg0 HM.out.own.below.size (fun k e => by cases e)
            have hbk := HM.out.bk
            have hL0 := HV.out.has hbk
            have HK := Lib.hid hbk
            have hrr : w.heap.size ≤ wr.heap.size := HM.out.own.below.size
            generalize wr.heap.size = r at hrr hrg0 HB0 ⊢
            obtain ⟨cnt0, hc0⟩ : ∃ cnt0, cnt0 = Maps.size D := ⟨_, rfl⟩
            rw [← hc0] at hrg0
            clear hc0 hbk
            go_loopg [21] cnt0 (fun g vl wr => ∃ left, wr.ranges Try.prog 32 RV mb r n D left g ∧ (∀ kl, left kl = true → Maps.has D kl = true) ∧ vl = .int .i64 (cntL C left c) ∧ Hid (Below w.heap.size w wr))
            case atStart => exact ⟨_, hrg0, fun _ h => h, by rw [hL0], Lib.hid HB0⟩
            case round =>
              clear hrg0 HB0 hg0 hs0
              obtain ⟨left, hrg, hsub, rfl, HB⟩ := hrel
              have HS2 := Lib.hid hsub
              clear hsub
              go_wp2_with (first | (at_next; refine wpList_next_ranges _ rfl _ rfl 32 law32 RV (fun x : Int => .int .u32 x) (fun y : Sv => .slice y.A y.n y.c) (fun key kl h => by obtain ⟨x, rfl, _⟩ := keyOf_int_inv Try.underlying32 h; exact ⟨x, rfl⟩) (fun v y h => by obtain ⟨A, n', c', rfl, _⟩ := RV_inv h; exact ⟨⟨A, n', c'⟩, rfl⟩) mb r n D left _ rfl hrg (fun hc0 hl0 => ?_) (fun x y kl yy w6 cnt' hk hlk hv hat hrg1 hlt hg1 hs1 hen => ?_);
                                     (rw [cntL_none C left c hl0]); rotate_left;
                                     (
                                       obtain ⟨j, cc, A, hj, rfl, e⟩ := HK.out.come hk (HS2.out _ hlk) hv hat
                                       obtain ⟨A', n', c'⟩ := y
                                       dsimp only at e hen ⊢
                                       injection e with e1 e2 e3
                                       subst e1 e2 e3
                                       have hst := HV.out.strike left j hj hlk
                                       have hb1 := cntL_bd C left c
                                       have hb2 := cntL_bd C (fun z => left z && !z.sameKey (kj j)) c
                                       have HB' := Lib.hid (HB.out.grown hg1 HB.out.size (fun k e => by injection e with e; subst e; exact hrr))
                                       have HR := Lib.hid hrg1
                                       have HS' : Hid (∀ kl, (left kl && !kl.sameKey (kj j)) = true → Maps.has D kl = true) := Lib.hid fun kl h => HS2.out kl (by rw [Bool.and_eq_true] at h; exact h.1)
                                       obtain ⟨L1, hL1⟩ : ∃ L1, L1 = cntL C (fun z => left z && !z.sameKey (kj j)) c := ⟨_, rfl⟩
                                       rw [← hL1] at hst hb2
                                       have HL1 := Lib.hid hL1
                                       clear hk hlk hv hat hrg1 hg1 hs1 hrg HB hL1
                                       generalize cntL C left c = L0 at hst hb1 ⊢
                                       generalize (wt j).length = nl at hst hen ⊢); rotate_left))
              · refine (works_k w _ HB.out).mono ?_
                rintro e w7 ⟨rfl, hb⟩
                go_wp2
                go_ret
                exact ⟨rfl, hb⟩
              · go_wp2
                go_roundg cnt'
                case measure => omega
                case rel => exact ⟨_, HR.out, HS'.out, by rw [← HL1.out, hst]; try go_num, HB'⟩
end Go.Proofs.Ytbpinkelcbcpjaa.Ni
