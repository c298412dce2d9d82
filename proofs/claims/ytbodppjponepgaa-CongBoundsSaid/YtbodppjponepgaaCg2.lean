import Derived.Test.YtbodppjponepgaaCg
import Derived.IntWalk
namespace Go.Proofs.Ytbodppjponepgaa.Cg
open Go.RowKit Blk Go.Proofs.YtbodppjponepgaaW.PrintWords Go.Proofs.YtbodppjponepgaaW.PrintMore
attribute [local go_sem] max2_int min2_int max_two min_two
set_option linter.unusedVariables false

def St.count (s : St) (v : Int) : St := if s.window ≤ v then ⟨s.mss, cap (s.window + s.mss), s.edge, s.state, s.twices, v - s.window, s.mark⟩ else ⟨s.mss, s.window, s.edge, s.state, s.twices, v, s.mark⟩
def St.avoid (s : St) (n : Int) : St := s.count (s.counted + cap n)

set_option maxHeartbeats 2000000 in
theorem avoid_v (s : St) (b : Nat) (mp : Option Addr) (u n X : Int) (w : World) (h : Has w b (s.cells mp) 47) (hm : 1 ≤ s.mss ∧ s.mss ≤ 65535) (hw : 0 ≤ s.window ∧ s.window ≤ 1073741824) (hc : 0 ≤ s.counted ∧ s.counted ≤ 1125899906842624)
    (hX : (1073741824 < n ∧ X = 1073741824) ∨ (1 ≤ n ∧ n ≤ 1073741824 ∧ X = n)) :
    Calls Try.prog 24 #[.pointer (some ⟨b, 0, none⟩), .int .u32 u, .int .i64 n] w fun e w' => e = .returned (.bool false) ∧ Has w' b ((s.count (s.counted + X)).cells mp) 47 ∧ Ch (· = b) w w' := by
  have H := Lib.hid h
  have c0 : w.cell? ⟨b, 0, none⟩ = some (.int .i64 s.mss) := h.cell rfl
  have c1 : w.cell? ⟨b, 1, none⟩ = some (.int .i64 s.window) := h.cell rfl
  have c5 : w.cell? ⟨b, 5, none⟩ = some (.int .i64 s.counted) := h.cell rfl
  have f1 := h.free 1
  have f5 := h.free 5
  clear h
  by_cases hv : s.window ≤ s.counted + X
  · have HS := Lib.hid (show s.count (s.counted + X) = _ from if_pos hv)
    rcases hX with ⟨hX, rfl⟩ | ⟨hX1, hX2, rfl⟩
    all_goals
      go_enter Try.func24, Try.ntmps24
      go_wp2
      go_region
      go_wp2
      go_region
      go_wp2
      have hsum : IntKind.i64.wrap (s.window + s.mss) = s.window + s.mss := IntWalk.i64_in _ (by omega)
      go_region_with ((refine (to_c b _ s.window _ (by go_simp) (by go_simp)).mono ?_; rintro e w' ⟨rfl, rfl⟩))
      all_goals
        clear hsum
        go_wp2
        go_ret
        exact ⟨rfl, cast (by repeat (first | with_reducible exact H.out | with_reducible apply Has.set | with_reducible apply Has.drew | with_reducible apply Has.drewN)) (by rw [HS.out]; rfl), by repeat (first | with_reducible exact Ch.refl _ _ | with_reducible apply Ch.atb | with_reducible apply Ch.drew | with_reducible apply Ch.drewN)⟩
  · have HS := Lib.hid (show s.count (s.counted + X) = _ from if_neg hv)
    have hv2 : decide (s.window ≤ s.counted + X) = false := decide_eq_false hv
    clear hv
    rcases hX with ⟨hX, rfl⟩ | ⟨hX1, hX2, rfl⟩
    all_goals
      go_enter Try.func24, Try.ntmps24
      go_wp2
      go_quiet (fail)
      go_wp2
      go_ret
      exact ⟨rfl, cast (by repeat (first | with_reducible exact H.out | with_reducible apply Has.set | with_reducible apply Has.drew | with_reducible apply Has.drewN)) (by rw [HS.out]; rfl), by repeat (first | with_reducible exact Ch.refl _ _ | with_reducible apply Ch.atb | with_reducible apply Ch.drew | with_reducible apply Ch.drewN)⟩
theorem avoid_c (s : St) (b : Nat) (mp : Option Addr) (u n : Int) (w : World) (h : Has w b (s.cells mp) 47) (hm : 1 ≤ s.mss ∧ s.mss ≤ 65535) (hw : 0 ≤ s.window ∧ s.window ≤ 1073741824) (hc : 0 ≤ s.counted ∧ s.counted ≤ 1125899906842624) (hn : 1 ≤ n) :
    Calls Try.prog 24 #[.pointer (some ⟨b, 0, none⟩), .int .u32 u, .int .i64 n] w fun e w' => e = .returned (.bool false) ∧ Has w' b ((s.avoid n).cells mp) 47 ∧ Ch (· = b) w w' := by
  unfold St.avoid cap mn
  by_cases c : 1073741824 < n
  · rw [if_pos c]; exact avoid_v s b mp u n _ w h hm hw hc (.inl ⟨c, rfl⟩)
  · rw [if_neg c]; exact avoid_v s b mp u n _ w h hm hw hc (.inr ⟨hn, by omega, rfl⟩)

def St.recov (s : St) (una n : Int) : St × Bool :=
  if s.passed una then (⟨s.mss, s.edge, s.edge, 1, s.twices, 0, s.mark⟩, false)
  else (⟨s.mss, cap (mx (s.window - n) s.mss + (if s.mss ≤ n then s.mss else 0)), s.edge, s.state, s.twices, s.counted, s.mark⟩, true)

set_option maxHeartbeats 2000000 in
theorem recover_v (s : St) (b : Nat) (mp : Option Addr) (una n : Int) (w : World) (h : Has w b (s.cells mp) 47) (hk : Mark w b s.mark mp) (hm : 1 ≤ s.mss ∧ s.mss ≤ 65535) (hw : 0 ≤ s.window ∧ s.window ≤ 1073741824) (hn : 1 ≤ n ∧ n ≤ 9223372036854775807) :
    Calls Try.prog 25 #[.pointer (some ⟨b, 0, none⟩), .int .u32 una, .int .i64 n] w fun e w' => e = .returned (.bool (s.recov una n).2) ∧ Has w' b ((s.recov una n).1.cells mp) 47 ∧ Ch (· = b) w w' := by
  have H := Lib.hid h
  have HM := Lib.hid hk
  have c0 : w.cell? ⟨b, 0, none⟩ = some (.int .i64 s.mss) := h.cell rfl
  have c1 : w.cell? ⟨b, 1, none⟩ = some (.int .i64 s.window) := h.cell rfl
  have c2 : w.cell? ⟨b, 2, none⟩ = some (.int .i64 s.edge) := h.cell rfl
  have c3 : w.cell? ⟨b, 3, none⟩ = some (.int .u8 s.state) := h.cell rfl
  have c5 : w.cell? ⟨b, 5, none⟩ = some (.int .i64 s.counted) := h.cell rfl
  have f1 := h.free 1
  have f3 := h.free 3
  have f5 := h.free 5
  clear h hk
  by_cases hp : s.passed una = true
  · have HS := Lib.hid (show s.recov una n = _ from if_pos hp)
    have HP := Lib.hid hp
    clear hp
    go_enter Try.func25, Try.ntmps25
    go_wp2_with fail
    refine (passed_c s b una _ ⟨mp, H.out, HM.out⟩).mono ?_
    rintro e w' ⟨rfl, rfl⟩
    rw [HP.out]
    go_wp2
    go_ret
    exact ⟨by rw [HS.out]; rfl, cast (by repeat (first | with_reducible exact H.out | with_reducible apply Has.set | with_reducible apply Has.drew | with_reducible apply Has.drewN)) (by rw [HS.out]; rfl), by repeat (first | with_reducible exact Ch.refl _ _ | with_reducible apply Ch.atb | with_reducible apply Ch.drew | with_reducible apply Ch.drewN)⟩
  · have HS := Lib.hid (show s.recov una n = _ from if_neg hp)
    have HP := Lib.hid (show s.passed una = false by simpa using hp)
    clear hp
    by_cases cn : s.mss ≤ n
    · by_cases cx : s.window - n < s.mss
      · skip
        go_enter Try.func25, Try.ntmps25
        go_wp2_with fail
        refine (passed_c s b una _ ⟨mp, H.out, HM.out⟩).mono ?_
        rintro e w' ⟨rfl, rfl⟩
        rw [HP.out]
        go_wp2
        go_quiet (fail)
        go_wp2_with fail
        refine (to_c b _ s.window _ (by go_simp) (by go_simp)).mono ?_
        rintro e w' ⟨rfl, rfl⟩
        go_wp2
        go_ret
        exact ⟨by rw [HS.out]; rfl, cast (by repeat (first | with_reducible exact H.out | with_reducible apply Has.set | with_reducible apply Has.drew | with_reducible apply Has.drewN)) (by rw [HS.out, if_pos (by omega), mx, if_pos (by omega)]; first | rfl | (rw [Int.add_zero]; rfl)), by repeat (first | with_reducible exact Ch.refl _ _ | with_reducible apply Ch.atb | with_reducible apply Ch.drew | with_reducible apply Ch.drewN)⟩
      · skip
        go_enter Try.func25, Try.ntmps25
        go_wp2_with fail
        refine (passed_c s b una _ ⟨mp, H.out, HM.out⟩).mono ?_
        rintro e w' ⟨rfl, rfl⟩
        rw [HP.out]
        go_wp2
        go_quiet (fail)
        go_wp2_with fail
        refine (to_c b _ s.window _ (by go_simp) (by go_simp)).mono ?_
        rintro e w' ⟨rfl, rfl⟩
        go_wp2
        go_ret
        exact ⟨by rw [HS.out]; rfl, cast (by repeat (first | with_reducible exact H.out | with_reducible apply Has.set | with_reducible apply Has.drew | with_reducible apply Has.drewN)) (by rw [HS.out, if_pos (by omega), mx, if_neg (by omega)]; first | rfl | (rw [Int.add_zero]; rfl)), by repeat (first | with_reducible exact Ch.refl _ _ | with_reducible apply Ch.atb | with_reducible apply Ch.drew | with_reducible apply Ch.drewN)⟩
    · by_cases cx : s.window - n < s.mss
      · skip
        go_enter Try.func25, Try.ntmps25
        go_wp2_with fail
        refine (passed_c s b una _ ⟨mp, H.out, HM.out⟩).mono ?_
        rintro e w' ⟨rfl, rfl⟩
        rw [HP.out]
        go_wp2
        go_quiet (fail)
        go_wp2_with fail
        refine (to_c b _ s.window _ (by go_simp) (by go_simp)).mono ?_
        rintro e w' ⟨rfl, rfl⟩
        go_wp2
        go_ret
        exact ⟨by rw [HS.out]; rfl, cast (by repeat (first | with_reducible exact H.out | with_reducible apply Has.set | with_reducible apply Has.drew | with_reducible apply Has.drewN)) (by rw [HS.out, if_neg (by omega), mx, if_pos (by omega)]; first | rfl | (rw [Int.add_zero]; rfl)), by repeat (first | with_reducible exact Ch.refl _ _ | with_reducible apply Ch.atb | with_reducible apply Ch.drew | with_reducible apply Ch.drewN)⟩
      · skip
        go_enter Try.func25, Try.ntmps25
        go_wp2_with fail
        refine (passed_c s b una _ ⟨mp, H.out, HM.out⟩).mono ?_
        rintro e w' ⟨rfl, rfl⟩
        rw [HP.out]
        go_wp2
        go_quiet (fail)
        go_wp2_with fail
        refine (to_c b _ s.window _ (by go_simp) (by go_simp)).mono ?_
        rintro e w' ⟨rfl, rfl⟩
        go_wp2
        go_ret
        exact ⟨by rw [HS.out]; rfl, cast (by repeat (first | with_reducible exact H.out | with_reducible apply Has.set | with_reducible apply Has.drew | with_reducible apply Has.drewN)) (by rw [HS.out, if_neg (by omega), mx, if_neg (by omega)]; first | rfl | (rw [Int.add_zero]; rfl)), by repeat (first | with_reducible exact Ch.refl _ _ | with_reducible apply Ch.atb | with_reducible apply Ch.drew | with_reducible apply Ch.drewN)⟩
end Go.Proofs.Ytbodppjponepgaa.Cg
