import Derived.Test.YtbodppjponepgaaCgr
namespace Go.Proofs.Ytbodppjponepgaa.Cg
open Go.RowKit Blk Go.Proofs.YtbodppjponepgaaW.PrintWords
attribute [local go_sem] rmax2_mx rmin2_mn Go.Proofs.YtbodppjponepgaaW.PrintMore.max_two Go.Proofs.YtbodppjponepgaaW.PrintMore.min_two
set_option linter.unusedVariables false

set_option maxHeartbeats 2000000 in
theorem racked_no (s : St) (b : Nat) (una n : Int) (w : World) (hn : n < 1) :
    Calls Try.prog 14 #[.pointer (some ⟨b, 0, none⟩), .int .u32 una, .int .i64 n] w fun e w' => e = .returned (.bool false) ∧ w = w' := by
  go_enter Try.func14, Try.ntmps14
  go_wp2
  go_ret
  exact ⟨rfl, rfl⟩
theorem mn_bd (n m : Int) (hn : 1 ≤ n) (hm : 1 ≤ m ∧ m ≤ 65535) : 1 ≤ mn n m ∧ mn n m ≤ 65535 := by unfold mn; split <;> omega
theorem cap_bd1 (n : Int) (hn : 1 ≤ n) : 1 ≤ mn n 1073741824 ∧ mn n 1073741824 ≤ 1073741824 := by unfold mn; split <;> omega

set_option maxHeartbeats 4000000 in
theorem racked_slow (s : St) (b : Nat) (una n : Int) (w : World) (h : Has w b s.rc 42) {K : Int} (ho : s.Ok K) (hK : K ≤ 1000) (hn : 1 ≤ n ∧ n ≤ 9223372036854775807) (hu : 0 ≤ una ∧ una ≤ 4294967295) (hs : s.state = 0) :
    Calls Try.prog 14 #[.pointer (some ⟨b, 0, none⟩), .int .u32 una, .int .i64 n] w fun e w' => e = .returned (.bool ((s.fresh.slow n, false)).2) ∧ Has w' b ((s.fresh.slow n, false)).1.rc 42 ∧ Ch (· = b) w w' := by
  have hm : 1 ≤ s.mss ∧ s.mss ≤ 65535 := ⟨ho.m0, ho.m1⟩
  have w0 := ho.w0
  have w1 := ho.w1
  have cc0 := ho.c0
  have cc1 : s.counted ≤ 1125899906842624 := by have := ho.c1; omega
  have hmn := mn_bd n s.mss hn.1 hm
  have hcp := cap_bd1 n hn.1
  have hmu := ho.mark_u
  have H := Lib.hid h
  have c0 : w.cell? ⟨b, 0, none⟩ = some (.int .i64 s.mss) := h.cell rfl
  have c1 : w.cell? ⟨b, 1, none⟩ = some (.int .i64 s.window) := h.cell rfl
  have c2 : w.cell? ⟨b, 2, none⟩ = some (.int .i64 s.edge) := h.cell rfl
  have c3 : w.cell? ⟨b, 3, none⟩ = some (.int .u8 0) := by rw [← hs]; exact h.cell rfl
  have c4 : w.cell? ⟨b, 4, none⟩ = some (.int .i64 s.twices) := h.cell rfl
  have c5 : w.cell? ⟨b, 5, none⟩ = some (.int .i64 s.counted) := h.cell rfl
  have f1 := h.free 1
  have f2 := h.free 2
  have f3 := h.free 3
  have f4 := h.free 4
  have f5 := h.free 5
  have f6 := h.free 6
  have f7 := h.free 7
  clear h hs ho hmu
  by_cases hv : s.edge ≤ mn (s.window + mn n s.mss) 1073741824
  · have HS := Lib.hid (show s.fresh.slow n = _ from if_pos hv)
    have hv2 : decide (s.edge ≤ mn (s.window + mn n s.mss) 1073741824) = true := decide_eq_true hv
    clear hv
    go_enter Try.func14, Try.ntmps14
    go_wp2
    go_region
    all_goals
      go_wp2
      go_region
      all_goals
        go_wp2
        go_ret
        exact ⟨rfl, cast (by repeat (first | with_reducible exact H.out | with_reducible apply Has.set | with_reducible apply Has.drew | with_reducible apply Has.drewN)) (by rw [HS.out]; rfl), (by repeat (first | with_reducible exact Ch.refl _ _ | with_reducible apply Ch.atb | with_reducible apply Ch.drew | with_reducible apply Ch.drewN))⟩
  · have HS := Lib.hid (show s.fresh.slow n = _ from if_neg hv)
    have hv2 : decide (s.edge ≤ mn (s.window + mn n s.mss) 1073741824) = false := decide_eq_false hv
    clear hv
    go_enter Try.func14, Try.ntmps14
    go_wp2
    go_region
    all_goals
      go_wp2
      go_region
      all_goals
        go_wp2
        go_ret
        exact ⟨rfl, cast (by repeat (first | with_reducible exact H.out | with_reducible apply Has.set | with_reducible apply Has.drew | with_reducible apply Has.drewN)) (by rw [HS.out]; rfl), (by repeat (first | with_reducible exact Ch.refl _ _ | with_reducible apply Ch.atb | with_reducible apply Ch.drew | with_reducible apply Ch.drewN))⟩

set_option maxHeartbeats 4000000 in
theorem racked_avoid (s : St) (b : Nat) (una n : Int) (w : World) (h : Has w b s.rc 42) {K : Int} (ho : s.Ok K) (hK : K ≤ 1000) (hn : 1 ≤ n ∧ n ≤ 9223372036854775807) (hu : 0 ≤ una ∧ una ≤ 4294967295) (hs : s.state = 1) :
    Calls Try.prog 14 #[.pointer (some ⟨b, 0, none⟩), .int .u32 una, .int .i64 n] w fun e w' => e = .returned (.bool ((s.fresh.avoid n, false)).2) ∧ Has w' b ((s.fresh.avoid n, false)).1.rc 42 ∧ Ch (· = b) w w' := by
  have hm : 1 ≤ s.mss ∧ s.mss ≤ 65535 := ⟨ho.m0, ho.m1⟩
  have w0 := ho.w0
  have w1 := ho.w1
  have cc0 := ho.c0
  have cc1 : s.counted ≤ 1125899906842624 := by have := ho.c1; omega
  have hmn := mn_bd n s.mss hn.1 hm
  have hcp := cap_bd1 n hn.1
  have hmu := ho.mark_u
  have H := Lib.hid h
  have c0 : w.cell? ⟨b, 0, none⟩ = some (.int .i64 s.mss) := h.cell rfl
  have c1 : w.cell? ⟨b, 1, none⟩ = some (.int .i64 s.window) := h.cell rfl
  have c2 : w.cell? ⟨b, 2, none⟩ = some (.int .i64 s.edge) := h.cell rfl
  have c3 : w.cell? ⟨b, 3, none⟩ = some (.int .u8 1) := by rw [← hs]; exact h.cell rfl
  have c4 : w.cell? ⟨b, 4, none⟩ = some (.int .i64 s.twices) := h.cell rfl
  have c5 : w.cell? ⟨b, 5, none⟩ = some (.int .i64 s.counted) := h.cell rfl
  have f1 := h.free 1
  have f2 := h.free 2
  have f3 := h.free 3
  have f4 := h.free 4
  have f5 := h.free 5
  have f6 := h.free 6
  have f7 := h.free 7
  clear h hs ho hmu
  by_cases hv : s.window ≤ s.counted + mn n 1073741824
  · have HS := Lib.hid (show s.fresh.avoid n = _ from if_pos hv)
    have hv2 : decide (s.window ≤ s.counted + mn n 1073741824) = true := decide_eq_true hv
    clear hv
    go_enter Try.func14, Try.ntmps14
    go_wp2
    go_region
    all_goals
      go_wp2
      go_region
      all_goals
        go_wp2
        go_region
        all_goals
          go_wp2
          go_ret
          exact ⟨rfl, cast (by repeat (first | with_reducible exact H.out | with_reducible apply Has.set | with_reducible apply Has.drew | with_reducible apply Has.drewN)) (by rw [HS.out]; rfl), (by repeat (first | with_reducible exact Ch.refl _ _ | with_reducible apply Ch.atb | with_reducible apply Ch.drew | with_reducible apply Ch.drewN))⟩
  · have HS := Lib.hid (show s.fresh.avoid n = _ from if_neg hv)
    have hv2 : decide (s.window ≤ s.counted + mn n 1073741824) = false := decide_eq_false hv
    clear hv
    go_enter Try.func14, Try.ntmps14
    go_wp2
    go_region
    all_goals
      go_wp2
      go_ret
      exact ⟨rfl, cast (by repeat (first | with_reducible exact H.out | with_reducible apply Has.set | with_reducible apply Has.drew | with_reducible apply Has.drewN)) (by rw [HS.out]; rfl), (by repeat (first | with_reducible exact Ch.refl _ _ | with_reducible apply Ch.atb | with_reducible apply Ch.drew | with_reducible apply Ch.drewN))⟩

set_option maxHeartbeats 4000000 in
theorem racked_recov (s : St) (b : Nat) (una n : Int) (w : World) (h : Has w b s.rc 42) {K : Int} (ho : s.Ok K) (hK : K ≤ 1000) (hn : 1 ≤ n ∧ n ≤ 9223372036854775807) (hu : 0 ≤ una ∧ una ≤ 4294967295) (hs : s.state = 2) :
    Calls Try.prog 14 #[.pointer (some ⟨b, 0, none⟩), .int .u32 una, .int .i64 n] w fun e w' => e = .returned (.bool (s.fresh.recov una n).2) ∧ Has w' b (s.fresh.recov una n).1.rc 42 ∧ Ch (· = b) w w' := by
  have hm : 1 ≤ s.mss ∧ s.mss ≤ 65535 := ⟨ho.m0, ho.m1⟩
  have w0 := ho.w0
  have w1 := ho.w1
  have cc0 := ho.c0
  have cc1 : s.counted ≤ 1125899906842624 := by have := ho.c1; omega
  have hmn := mn_bd n s.mss hn.1 hm
  have hcp := cap_bd1 n hn.1
  have hmu := ho.mark_u
  have H := Lib.hid h
  have c0 : w.cell? ⟨b, 0, none⟩ = some (.int .i64 s.mss) := h.cell rfl
  have c1 : w.cell? ⟨b, 1, none⟩ = some (.int .i64 s.window) := h.cell rfl
  have c2 : w.cell? ⟨b, 2, none⟩ = some (.int .i64 s.edge) := h.cell rfl
  have c3 : w.cell? ⟨b, 3, none⟩ = some (.int .u8 2) := by rw [← hs]; exact h.cell rfl
  have c4 : w.cell? ⟨b, 4, none⟩ = some (.int .i64 s.twices) := h.cell rfl
  have c5 : w.cell? ⟨b, 5, none⟩ = some (.int .i64 s.counted) := h.cell rfl
  have f1 := h.free 1
  have f2 := h.free 2
  have f3 := h.free 3
  have f4 := h.free 4
  have f5 := h.free 5
  have f6 := h.free 6
  have f7 := h.free 7
  have H2 := Lib.hid (show Has (w.setCell ⟨b, 4, none⟩ (.int .i64 0)) b s.fresh.rc 42 from h.set 4 _)
  have HU := Lib.hid hmu
  clear h hs ho hmu
  by_cases hp : s.fresh.passed una = true
  · have HS := Lib.hid (show s.fresh.recov una n = _ from if_pos hp)
    have HP := Lib.hid hp
    clear hp
    go_enter Try.func14, Try.ntmps14
    go_wp2_with fail
    refine (rbehind_c s.fresh b una _ H2.out hu HU.out).mono ?_
    rintro e w' ⟨rfl, rfl⟩
    rw [HP.out]
    go_wp2
    go_ret
    exact ⟨by rw [HS.out]; rfl, cast (by repeat (first | with_reducible exact H.out | with_reducible apply Has.set | with_reducible apply Has.drew | with_reducible apply Has.drewN)) (by rw [HS.out]; rfl), (by repeat (first | with_reducible exact Ch.refl _ _ | with_reducible apply Ch.atb | with_reducible apply Ch.drew | with_reducible apply Ch.drewN))⟩
  · have HS := Lib.hid (show s.fresh.recov una n = _ from if_neg hp)
    have HP := Lib.hid (show s.fresh.passed una = false by simpa using hp)
    clear hp
    have hmx : 0 ≤ mx (s.window - n) s.mss ∧ mx (s.window - n) s.mss ≤ 1073741824 := by unfold mx; split <;> omega
    by_cases cn : s.mss ≤ n
    all_goals
      go_enter Try.func14, Try.ntmps14
      go_wp2_with fail
      refine (rbehind_c s.fresh b una _ H2.out hu HU.out).mono ?_
      rintro e w' ⟨rfl, rfl⟩
      rw [HP.out]
      go_wp2
      go_region
      all_goals
        go_wp2
        go_ret
        exact ⟨by rw [HS.out]; rfl, cast (by repeat (first | with_reducible exact H.out | with_reducible apply Has.set | with_reducible apply Has.drew | with_reducible apply Has.drewN)) (by rw [HS.out]; (first | rw [if_pos (show s.fresh.mss ≤ n by show s.mss ≤ n; omega)] | rw [if_neg (show ¬ s.fresh.mss ≤ n by show ¬ s.mss ≤ n; omega), Int.add_zero]); rfl), (by repeat (first | with_reducible exact Ch.refl _ _ | with_reducible apply Ch.atb | with_reducible apply Ch.drew | with_reducible apply Ch.drewN))⟩
theorem racked_k (s : St) (b : Nat) (una n : Int) (w : World) (h : Has w b s.rc 42) {K : Int} (ho : s.Ok K) (hK : K ≤ 1000) (hn : n ≤ 9223372036854775807) (hu : 0 ≤ una ∧ una ≤ 4294967295) :
    Calls Try.prog 14 #[.pointer (some ⟨b, 0, none⟩), .int .u32 una, .int .i64 n] w fun e w' => e = .returned (.bool (s.acked una n).2) ∧ Has w' b (s.acked una n).1.rc 42 ∧ Ch (· = b) w w' := by
  unfold St.acked
  by_cases c : n < 1
  · rw [if_pos c]
    refine (racked_no s b una n w c).mono ?_
    rintro e w' ⟨rfl, rfl⟩
    exact ⟨rfl, h, Ch.refl _ _⟩
  rw [if_neg c]
  by_cases c0 : s.state = 0
  · rw [if_pos c0]
    exact racked_slow s b una n w h ho hK ⟨by omega, hn⟩ hu c0
  rw [if_neg c0]
  by_cases c1 : s.state = 1
  · rw [if_pos c1]
    exact racked_avoid s b una n w h ho hK ⟨by omega, hn⟩ hu c1
  rw [if_neg c1]
  have c2 : s.state = 2 := by have := ho.st; omega
  exact racked_recov s b una n w h ho hK ⟨by omega, hn⟩ hu c2

set_option maxHeartbeats 4000000 in
theorem rlate_k (s : St) (b : Nat) (next f : Int) (w : World) (h : Has w b s.rc 42) {K : Int} (ho : s.Ok K) (hf : -9223372036854775808 ≤ f ∧ f ≤ 9223372036854775807) :
    Calls Try.prog 17 #[.pointer (some ⟨b, 0, none⟩), .int .u32 next, .int .i64 f] w fun e w' => e = .returned (.tuple #[]) ∧ Has w' b (s.late next f).rc 42 ∧ Ch (· = b) w w' := by
  have m0 := ho.m0
  have m1 := ho.m1
  have H := Lib.hid h
  have c0 : w.cell? ⟨b, 0, none⟩ = some (.int .i64 s.mss) := h.cell rfl
  have c1 : w.cell? ⟨b, 1, none⟩ = some (.int .i64 s.window) := h.cell rfl
  have c2 : w.cell? ⟨b, 2, none⟩ = some (.int .i64 s.edge) := h.cell rfl
  have c3 : w.cell? ⟨b, 3, none⟩ = some (.int .u8 s.state) := h.cell rfl
  have c4 : w.cell? ⟨b, 4, none⟩ = some (.int .i64 s.twices) := h.cell rfl
  have c5 : w.cell? ⟨b, 5, none⟩ = some (.int .i64 s.counted) := h.cell rfl
  have f1 := h.free 1
  have f2 := h.free 2
  have f3 := h.free 3
  have f4 := h.free 4
  have f5 := h.free 5
  have f6 := h.free 6
  have f7 := h.free 7
  have c6 : w.cell? ⟨b, 6, none⟩ = some (.int .u32 (s.mark.getD 0)) := h.cell rfl
  have c7 : w.cell? ⟨b, 7, none⟩ = some (.bool s.mark.isSome) := h.cell rfl
  clear h ho
  go_enter Try.func17, Try.ntmps17
  go_wp2_with fail
  refine (rhalf_c s.mss f b w c0 ⟨m0, m1⟩ hf).mono ?_
  rintro e w' ⟨rfl, rfl⟩
  generalize hX : mx (f.tdiv 2) (2 * s.mss) = X
  have HX := Lib.hid hX
  clear hX
  go_wp2
  go_end0
  exact ⟨rfl, cast (by repeat (first | with_reducible exact H.out | with_reducible apply Has.set | with_reducible apply Has.drew | with_reducible apply Has.drewN)) (by unfold St.late; rw [HX.out]; rfl), (by repeat (first | with_reducible exact Ch.refl _ _ | with_reducible apply Ch.atb | with_reducible apply Ch.drew | with_reducible apply Ch.drewN))⟩

set_option maxHeartbeats 4000000 in
theorem rtwice_wide (s : St) (b : Nat) (una next f : Int) (w : World) (h : Has w b s.rc 42) {K : Int} (ho : s.Ok K) (hs : s.state = 2) :
    Calls Try.prog 15 #[.pointer (some ⟨b, 0, none⟩), .int .u32 una, .int .u32 next, .int .i64 f] w fun e w' => e = .returned (.bool false) ∧ Has w' b s.wide.rc 42 ∧ Ch (· = b) w w' := by
  have m0 := ho.m0
  have m1 := ho.m1
  have w0 := ho.w0
  have w1 := ho.w1
  have H := Lib.hid h
  have c0 : w.cell? ⟨b, 0, none⟩ = some (.int .i64 s.mss) := h.cell rfl
  have c1 : w.cell? ⟨b, 1, none⟩ = some (.int .i64 s.window) := h.cell rfl
  have c2 : w.cell? ⟨b, 2, none⟩ = some (.int .i64 s.edge) := h.cell rfl
  have c3 : w.cell? ⟨b, 3, none⟩ = some (.int .u8 2) := by rw [← hs]; exact h.cell rfl
  have c4 : w.cell? ⟨b, 4, none⟩ = some (.int .i64 s.twices) := h.cell rfl
  have c5 : w.cell? ⟨b, 5, none⟩ = some (.int .i64 s.counted) := h.cell rfl
  have f1 := h.free 1
  have f2 := h.free 2
  have f3 := h.free 3
  have f4 := h.free 4
  have f5 := h.free 5
  have f6 := h.free 6
  have f7 := h.free 7
  clear h ho hs
  go_enter Try.func15, Try.ntmps15
  go_wp2
  go_region
  all_goals
    go_wp2
    go_ret
    exact ⟨rfl, cast (by repeat (first | with_reducible exact H.out | with_reducible apply Has.set | with_reducible apply Has.drew | with_reducible apply Has.drewN)) (by rfl), (by repeat (first | with_reducible exact Ch.refl _ _ | with_reducible apply Ch.atb | with_reducible apply Ch.drew | with_reducible apply Ch.drewN))⟩

set_option maxHeartbeats 4000000 in
theorem rtwice_more (s : St) (b : Nat) (una next f : Int) (w : World) (h : Has w b s.rc 42) {K : Int} (ho : s.Ok K) (hK : K ≤ 1000) (hu : 0 ≤ una ∧ una ≤ 4294967295) (hst : s.state ≠ 2) (hn : ¬ (s.twices + 1 = 3 ∧ s.passed una = true)) :
    Calls Try.prog 15 #[.pointer (some ⟨b, 0, none⟩), .int .u32 una, .int .u32 next, .int .i64 f] w fun e w' => e = .returned (.bool false) ∧ Has w' b s.more.rc 42 ∧ Ch (· = b) w w' := by
  have t0 := ho.t0
  have t1 := ho.t1
  have e2 := beq_f hst
  have HU := Lib.hid ho.mark_u
  have H := Lib.hid h
  have c0 : w.cell? ⟨b, 0, none⟩ = some (.int .i64 s.mss) := h.cell rfl
  have c1 : w.cell? ⟨b, 1, none⟩ = some (.int .i64 s.window) := h.cell rfl
  have c2 : w.cell? ⟨b, 2, none⟩ = some (.int .i64 s.edge) := h.cell rfl
  have c3 : w.cell? ⟨b, 3, none⟩ = some (.int .u8 s.state) := h.cell rfl
  have c4 : w.cell? ⟨b, 4, none⟩ = some (.int .i64 s.twices) := h.cell rfl
  have c5 : w.cell? ⟨b, 5, none⟩ = some (.int .i64 s.counted) := h.cell rfl
  have f1 := h.free 1
  have f2 := h.free 2
  have f3 := h.free 3
  have f4 := h.free 4
  have f5 := h.free 5
  have f6 := h.free 6
  have f7 := h.free 7
  clear h ho hst
  by_cases ct : s.twices + 1 = 3
  · have HP := Lib.hid (show s.more.passed una = false by rw [Bool.eq_false_iff]; exact fun x => hn ⟨ct, x⟩)
    have e3 : (s.twices + 1 != 3) = false := by rw [ct]; rfl
    have H2 := Lib.hid (show Has (w.setCell ⟨b, 4, none⟩ (.int .i64 (s.twices + 1))) b s.more.rc 42 from H.out.set 4 _)
    clear hn ct
    go_enter Try.func15, Try.ntmps15
    go_wp2_with fail
    refine (rbehind_c s.more b una _ H2.out hu HU.out).mono ?_
    rintro e w' ⟨rfl, rfl⟩
    rw [HP.out]
    go_wp2
    go_ret
    exact ⟨rfl, H2.out, (Ch.refl _ _).atb _ _⟩
  · have e3 : (s.twices + 1 != 3) = true := by rw [bne, beq_f ct]; rfl
    clear ct hn
    go_enter Try.func15, Try.ntmps15
    go_wp2
    go_ret
    exact ⟨rfl, H.out.set 4 _, (Ch.refl _ _).atb _ _⟩

set_option maxHeartbeats 4000000 in
theorem rtwice_hit (s : St) (b : Nat) (una next f : Int) (w : World) (h : Has w b s.rc 42) {K : Int} (ho : s.Ok K) (hK : K ≤ 1000) (hu : 0 ≤ una ∧ una ≤ 4294967295) (hf : -9223372036854775808 ≤ f ∧ f ≤ 9223372036854775807) (hst : s.state ≠ 2) (hn : s.twices + 1 = 3 ∧ s.passed una = true) :
    Calls Try.prog 15 #[.pointer (some ⟨b, 0, none⟩), .int .u32 una, .int .u32 next, .int .i64 f] w fun e w' => e = .returned (.bool true) ∧ Has w' b (s.hit next f).rc 42 ∧ Ch (· = b) w w' := by
  have t0 := ho.t0
  have t1 := ho.t1
  have m0 := ho.m0
  have m1 := ho.m1
  have e2 := beq_f hst
  have HU := Lib.hid ho.mark_u
  have H := Lib.hid h
  have c0 : w.cell? ⟨b, 0, none⟩ = some (.int .i64 s.mss) := h.cell rfl
  have c1 : w.cell? ⟨b, 1, none⟩ = some (.int .i64 s.window) := h.cell rfl
  have c2 : w.cell? ⟨b, 2, none⟩ = some (.int .i64 s.edge) := h.cell rfl
  have c3 : w.cell? ⟨b, 3, none⟩ = some (.int .u8 s.state) := h.cell rfl
  have c4 : w.cell? ⟨b, 4, none⟩ = some (.int .i64 s.twices) := h.cell rfl
  have c5 : w.cell? ⟨b, 5, none⟩ = some (.int .i64 s.counted) := h.cell rfl
  have f1 := h.free 1
  have f2 := h.free 2
  have f3 := h.free 3
  have f4 := h.free 4
  have f5 := h.free 5
  have f6 := h.free 6
  have f7 := h.free 7
  have c6 : w.cell? ⟨b, 6, none⟩ = some (.int .u32 (s.mark.getD 0)) := h.cell rfl
  have c7 : w.cell? ⟨b, 7, none⟩ = some (.bool s.mark.isSome) := h.cell rfl
  clear h ho hst
  have HP := Lib.hid (show s.more.passed una = true from hn.2)
  have e3 : (s.twices + 1 != 3) = false := by rw [hn.1]; rfl
  have H2 := Lib.hid (show Has (w.setCell ⟨b, 4, none⟩ (.int .i64 (s.twices + 1))) b s.more.rc 42 from H.out.set 4 _)
  have hcap : 0 ≤ mn (mx (f.tdiv 2) (2 * s.mss)) 1073741824 ∧ mn (mx (f.tdiv 2) (2 * s.mss)) 1073741824 ≤ 1073741824 := by unfold mn mx; (repeat' split) <;> omega
  clear hn
  go_enter Try.func15, Try.ntmps15
  go_wp2_with fail
  refine (rbehind_c s.more b una _ H2.out hu HU.out).mono ?_
  rintro e w' ⟨rfl, rfl⟩
  rw [HP.out]
  go_wp2_with fail
  refine (rhalf_c s.mss f b _ (by go_simp) ⟨m0, m1⟩ hf).mono ?_
  rintro e w' ⟨rfl, rfl⟩
  generalize hX : mx (f.tdiv 2) (2 * s.mss) = X at *
  have HX := Lib.hid hX
  clear hX
  go_wp2
  go_region
  all_goals
    go_wp2
    go_ret
    exact ⟨rfl, cast (by repeat (first | with_reducible exact H.out | with_reducible apply Has.set | with_reducible apply Has.drew | with_reducible apply Has.drewN)) (by unfold St.hit; rw [HX.out]; rfl), (by repeat (first | with_reducible exact Ch.refl _ _ | with_reducible apply Ch.atb | with_reducible apply Ch.drew | with_reducible apply Ch.drewN))⟩
theorem rtwice_k (s : St) (b : Nat) (una next f : Int) (w : World) (h : Has w b s.rc 42) {K : Int} (ho : s.Ok K) (hK : K ≤ 1000) (hu : 0 ≤ una ∧ una ≤ 4294967295) (hf : -9223372036854775808 ≤ f ∧ f ≤ 9223372036854775807) :
    Calls Try.prog 15 #[.pointer (some ⟨b, 0, none⟩), .int .u32 una, .int .u32 next, .int .i64 f] w fun e w' => e = .returned (.bool (s.twice una next f).2) ∧ Has w' b (s.twice una next f).1.rc 42 ∧ Ch (· = b) w w' := by
  unfold St.twice
  by_cases c : s.state = 2
  · rw [if_pos c]
    exact rtwice_wide s b una next f w h ho c
  rw [if_neg c]
  by_cases c1 : s.twices + 1 = 3 ∧ s.passed una = true
  · rw [if_pos c1]
    exact rtwice_hit s b una next f w h ho hK hu hf c c1
  · rw [if_neg c1]
    exact rtwice_more s b una next f w h ho hK hu c c1
end Go.Proofs.Ytbodppjponepgaa.Cg
