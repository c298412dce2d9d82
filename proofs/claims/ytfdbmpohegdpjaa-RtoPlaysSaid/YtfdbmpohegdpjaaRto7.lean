import Derived.Test.YtfdbmpohegdpjaaRto6
namespace Go.Proofs.Ytfdbmpohegdpjaa.Rto
open Go.RowKit Blk
set_option linter.unusedVariables false

def mn (x : Int) : Int := if 60000 < x then 60000 else x
def St.B (s : St) : Int := if s.base < 200 then 200 else s.base
theorem time_mn (s : St) : s.time = mn (ag s.bk.toNat s.B) := rfl
theorem ag_up (n : Nat) (x : Int) (h : 0 ≤ x) (m : Nat) : ag n x ≤ ag (n + m) x := by
  induction m with
  | zero => exact Int.le_refl _
  | succ m ih =>
    have := ag_ge (n + m) x h
    rw [show n + (m + 1) = n + m + 1 from rfl, ag_succ]
    split <;> omega
theorem mn_succ (n : Nat) (x : Int) (h : 200 ≤ x) : mn (ag (n + 1) x) = if 60000 < 2 * mn (ag n x) then 60000 else 2 * mn (ag n x) := by
  have := ag_ge n x (by omega)
  rw [ag_succ]
  unfold mn
  split <;> split <;> split <;> omega
theorem base_bd (s : St) (ho : s.Ok) : 0 ≤ s.base ∧ s.base ≤ 5497558138884 := by
  have := ho.m0; have := ho.m1; have := ho.o0; have := ho.o1
  unfold St.base; split
  · split <;> omega
  · omega

theorem mn_bd (x : Int) (h : 200 ≤ x) : 200 ≤ mn x ∧ mn x ≤ 60000 := by unfold mn; split <;> omega
theorem mn_stop (n j : Nat) (x : Int) (h : 0 ≤ x) (hj : j ≤ n) (hv : ¬ mn (ag j x) < 60000) : mn (ag n x) = mn (ag j x) := by
  obtain ⟨m, rfl⟩ : ∃ m, n = j + m := ⟨n - j, by omega⟩
  have := ag_up j x h m
  unfold mn at *
  split at hv <;> split <;> omega

set_option maxHeartbeats 4000000 in
set_option maxRecDepth 100000 in
theorem rtime_q (s : St) (b : Nat) (w : World) (h : RAt w b s) (ho : s.Ok) :
    Calls Try.prog 15 #[.pointer (some ⟨b, 0, none⟩)] w fun e w' => e = .returned (.int .i64 s.time) ∧ ∃ n, w' = w.drewN n := by
  have c0 : w.cell? ⟨b, 0, none⟩ = some (.int .i64 s.m) := h.cell rfl
  have c1 : w.cell? ⟨b, 1, none⟩ = some (.int .i64 s.o) := h.cell rfl
  obtain ⟨n, hn⟩ := Int.eq_ofNat_of_zero_le ho.b0
  have c3 : w.cell? ⟨b, 3, none⟩ = some (.int .i64 n) := h.cell (by rw [← hn]; rfl)
  have hn2 : n ≤ 1000000 := by have := ho.b1; omega
  have m0 := ho.m0
  have m1 := ho.m1
  have o0 := ho.o0
  have o1 := ho.o1
  have hbd := base_bd s ho
  have hB0 : 200 ≤ s.B := by unfold St.B; split <;> omega
  have ht0 : s.time = mn (ag n s.B) := by rw [time_mn, hn]; rfl
  obtain ⟨B, hB⟩ : ∃ B, B = s.B := ⟨_, rfl⟩
  rw [← hB] at hB0 ht0
  unfold St.B at hB
  have ht := Lib.hid ht0
  clear ht0
  by_cases hh : s.has = true
  · have c2 : w.cell? ⟨b, 2, none⟩ = some (.bool true) := h.cell (by rw [← hh]; rfl)
    have eb : s.base = s.m / 8 + (if s.o < 1 then 1 else s.o) := by unfold St.base; rw [if_pos hh]
    clear hn hh ho h
    rw [eb] at hB
    clear eb hbd
    by_cases co : s.o < 1
    · rw [if_pos co] at hB
      by_cases cl : s.m / 8 + 1 < 200
      · rw [if_pos cl] at hB
        have HV := Lib.hid (show 200 = mn (ag 0 B) by rw [show ag 0 B = B from rfl]; unfold mn; rw [hB]; rfl)
        clear hB
        go_enter Try.func15, Try.ntmps15
        go_wp2
        go_region
        go_wp2
        go_loop [3, 4] (fun vt vi => ∃ (j : Nat) (v : Int), j ≤ n ∧ vi = .int .i64 j ∧ vt = .int .i64 v ∧ 200 ≤ v ∧ v ≤ 60000 ∧ Hid (v = mn (ag j B))) (fun _ vi => n - (intOf vi).toNat)
        case atStart => exact ⟨0, _, by omega, rfl, rfl, by omega, by omega, HV⟩
        case round =>
          obtain ⟨j, v, hj, rfl, rfl, hv1, hv2, he⟩ := hrel
          by_cases cj : j < n
          · by_cases cv : v < 60000
            · have hs := mn_succ j B hB0
              rw [← he.out] at hs
              by_cases c2 : 60000 < 2 * v
              · rw [if_pos c2] at hs
                have HS := Lib.hid hs.symm
                clear hs he
                go_wp2
                go_round
                case rel => exact ⟨j + 1, 60000, by omega, by go_num, rfl, by omega, by omega, HS⟩
                case measure => simp [intOf]; omega
              · rw [if_neg c2] at hs
                have HS := Lib.hid hs.symm
                clear hs he
                go_wp2
                go_round
                case rel => exact ⟨j + 1, 2 * v, by omega, by go_num, rfl, by omega, by omega, HS⟩
                case measure => simp [intOf]; omega
            · have hs := mn_stop n j B (by omega) hj (by rw [← he.out]; exact cv)
              have HS := Lib.hid (show s.time = v by rw [ht.out, hs, he.out])
              clear hs he
              go_wp2
              go_ret
              exact ⟨by rw [HS.out]; rfl, 1, rfl⟩
          · have e : j = n := by omega
            have HS := Lib.hid (show s.time = v by rw [ht.out, he.out, e])
            clear he e
            go_wp2
            go_ret
            exact ⟨by rw [HS.out]; rfl, 1, rfl⟩
      · rw [if_neg cl] at hB
        by_cases cm : 60000 < s.m / 8 + 1
        · skip
          have HV := Lib.hid (show 60000 = mn (ag 0 B) by rw [show ag 0 B = B from rfl]; unfold mn; rw [hB, if_pos cm])
          clear hB
          go_enter Try.func15, Try.ntmps15
          go_wp2
          go_region
          go_wp2
          go_loop [3, 4] (fun vt vi => ∃ (j : Nat) (v : Int), j ≤ n ∧ vi = .int .i64 j ∧ vt = .int .i64 v ∧ 200 ≤ v ∧ v ≤ 60000 ∧ Hid (v = mn (ag j B))) (fun _ vi => n - (intOf vi).toNat)
          case atStart => exact ⟨0, _, by omega, rfl, rfl, by omega, by omega, HV⟩
          case round =>
            obtain ⟨j, v, hj, rfl, rfl, hv1, hv2, he⟩ := hrel
            by_cases cj : j < n
            · by_cases cv : v < 60000
              · have hs := mn_succ j B hB0
                rw [← he.out] at hs
                by_cases c2 : 60000 < 2 * v
                · rw [if_pos c2] at hs
                  have HS := Lib.hid hs.symm
                  clear hs he
                  go_wp2
                  go_round
                  case rel => exact ⟨j + 1, 60000, by omega, by go_num, rfl, by omega, by omega, HS⟩
                  case measure => simp [intOf]; omega
                · rw [if_neg c2] at hs
                  have HS := Lib.hid hs.symm
                  clear hs he
                  go_wp2
                  go_round
                  case rel => exact ⟨j + 1, 2 * v, by omega, by go_num, rfl, by omega, by omega, HS⟩
                  case measure => simp [intOf]; omega
              · have hs := mn_stop n j B (by omega) hj (by rw [← he.out]; exact cv)
                have HS := Lib.hid (show s.time = v by rw [ht.out, hs, he.out])
                clear hs he
                go_wp2
                go_ret
                exact ⟨by rw [HS.out]; rfl, 1, rfl⟩
            · have e : j = n := by omega
              have HS := Lib.hid (show s.time = v by rw [ht.out, he.out, e])
              clear he e
              go_wp2
              go_ret
              exact ⟨by rw [HS.out]; rfl, 1, rfl⟩
        · skip
          have HV := Lib.hid (show s.m / 8 + 1 = mn (ag 0 B) by rw [show ag 0 B = B from rfl]; unfold mn; rw [hB, if_neg cm])
          clear hB
          go_enter Try.func15, Try.ntmps15
          go_wp2
          go_region
          go_wp2
          go_loop [3, 4] (fun vt vi => ∃ (j : Nat) (v : Int), j ≤ n ∧ vi = .int .i64 j ∧ vt = .int .i64 v ∧ 200 ≤ v ∧ v ≤ 60000 ∧ Hid (v = mn (ag j B))) (fun _ vi => n - (intOf vi).toNat)
          case atStart => exact ⟨0, _, by omega, rfl, rfl, by omega, by omega, HV⟩
          case round =>
            obtain ⟨j, v, hj, rfl, rfl, hv1, hv2, he⟩ := hrel
            by_cases cj : j < n
            · by_cases cv : v < 60000
              · have hs := mn_succ j B hB0
                rw [← he.out] at hs
                by_cases c2 : 60000 < 2 * v
                · rw [if_pos c2] at hs
                  have HS := Lib.hid hs.symm
                  clear hs he
                  go_wp2
                  go_round
                  case rel => exact ⟨j + 1, 60000, by omega, by go_num, rfl, by omega, by omega, HS⟩
                  case measure => simp [intOf]; omega
                · rw [if_neg c2] at hs
                  have HS := Lib.hid hs.symm
                  clear hs he
                  go_wp2
                  go_round
                  case rel => exact ⟨j + 1, 2 * v, by omega, by go_num, rfl, by omega, by omega, HS⟩
                  case measure => simp [intOf]; omega
              · have hs := mn_stop n j B (by omega) hj (by rw [← he.out]; exact cv)
                have HS := Lib.hid (show s.time = v by rw [ht.out, hs, he.out])
                clear hs he
                go_wp2
                go_ret
                exact ⟨by rw [HS.out]; rfl, 1, rfl⟩
            · have e : j = n := by omega
              have HS := Lib.hid (show s.time = v by rw [ht.out, he.out, e])
              clear he e
              go_wp2
              go_ret
              exact ⟨by rw [HS.out]; rfl, 1, rfl⟩
    · rw [if_neg co] at hB
      by_cases cl : s.m / 8 + s.o < 200
      · rw [if_pos cl] at hB
        have HV := Lib.hid (show 200 = mn (ag 0 B) by rw [show ag 0 B = B from rfl]; unfold mn; rw [hB]; rfl)
        clear hB
        go_enter Try.func15, Try.ntmps15
        go_wp2
        go_region
        go_wp2
        go_loop [3, 4] (fun vt vi => ∃ (j : Nat) (v : Int), j ≤ n ∧ vi = .int .i64 j ∧ vt = .int .i64 v ∧ 200 ≤ v ∧ v ≤ 60000 ∧ Hid (v = mn (ag j B))) (fun _ vi => n - (intOf vi).toNat)
        case atStart => exact ⟨0, _, by omega, rfl, rfl, by omega, by omega, HV⟩
        case round =>
          obtain ⟨j, v, hj, rfl, rfl, hv1, hv2, he⟩ := hrel
          by_cases cj : j < n
          · by_cases cv : v < 60000
            · have hs := mn_succ j B hB0
              rw [← he.out] at hs
              by_cases c2 : 60000 < 2 * v
              · rw [if_pos c2] at hs
                have HS := Lib.hid hs.symm
                clear hs he
                go_wp2
                go_round
                case rel => exact ⟨j + 1, 60000, by omega, by go_num, rfl, by omega, by omega, HS⟩
                case measure => simp [intOf]; omega
              · rw [if_neg c2] at hs
                have HS := Lib.hid hs.symm
                clear hs he
                go_wp2
                go_round
                case rel => exact ⟨j + 1, 2 * v, by omega, by go_num, rfl, by omega, by omega, HS⟩
                case measure => simp [intOf]; omega
            · have hs := mn_stop n j B (by omega) hj (by rw [← he.out]; exact cv)
              have HS := Lib.hid (show s.time = v by rw [ht.out, hs, he.out])
              clear hs he
              go_wp2
              go_ret
              exact ⟨by rw [HS.out]; rfl, 1, rfl⟩
          · have e : j = n := by omega
            have HS := Lib.hid (show s.time = v by rw [ht.out, he.out, e])
            clear he e
            go_wp2
            go_ret
            exact ⟨by rw [HS.out]; rfl, 1, rfl⟩
      · rw [if_neg cl] at hB
        by_cases cm : 60000 < s.m / 8 + s.o
        · skip
          have HV := Lib.hid (show 60000 = mn (ag 0 B) by rw [show ag 0 B = B from rfl]; unfold mn; rw [hB, if_pos cm])
          clear hB
          go_enter Try.func15, Try.ntmps15
          go_wp2
          go_region
          go_wp2
          go_loop [3, 4] (fun vt vi => ∃ (j : Nat) (v : Int), j ≤ n ∧ vi = .int .i64 j ∧ vt = .int .i64 v ∧ 200 ≤ v ∧ v ≤ 60000 ∧ Hid (v = mn (ag j B))) (fun _ vi => n - (intOf vi).toNat)
          case atStart => exact ⟨0, _, by omega, rfl, rfl, by omega, by omega, HV⟩
          case round =>
            obtain ⟨j, v, hj, rfl, rfl, hv1, hv2, he⟩ := hrel
            by_cases cj : j < n
            · by_cases cv : v < 60000
              · have hs := mn_succ j B hB0
                rw [← he.out] at hs
                by_cases c2 : 60000 < 2 * v
                · rw [if_pos c2] at hs
                  have HS := Lib.hid hs.symm
                  clear hs he
                  go_wp2
                  go_round
                  case rel => exact ⟨j + 1, 60000, by omega, by go_num, rfl, by omega, by omega, HS⟩
                  case measure => simp [intOf]; omega
                · rw [if_neg c2] at hs
                  have HS := Lib.hid hs.symm
                  clear hs he
                  go_wp2
                  go_round
                  case rel => exact ⟨j + 1, 2 * v, by omega, by go_num, rfl, by omega, by omega, HS⟩
                  case measure => simp [intOf]; omega
              · have hs := mn_stop n j B (by omega) hj (by rw [← he.out]; exact cv)
                have HS := Lib.hid (show s.time = v by rw [ht.out, hs, he.out])
                clear hs he
                go_wp2
                go_ret
                exact ⟨by rw [HS.out]; rfl, 1, rfl⟩
            · have e : j = n := by omega
              have HS := Lib.hid (show s.time = v by rw [ht.out, he.out, e])
              clear he e
              go_wp2
              go_ret
              exact ⟨by rw [HS.out]; rfl, 1, rfl⟩
        · skip
          have HV := Lib.hid (show s.m / 8 + s.o = mn (ag 0 B) by rw [show ag 0 B = B from rfl]; unfold mn; rw [hB, if_neg cm])
          clear hB
          go_enter Try.func15, Try.ntmps15
          go_wp2
          go_region
          go_wp2
          go_loop [3, 4] (fun vt vi => ∃ (j : Nat) (v : Int), j ≤ n ∧ vi = .int .i64 j ∧ vt = .int .i64 v ∧ 200 ≤ v ∧ v ≤ 60000 ∧ Hid (v = mn (ag j B))) (fun _ vi => n - (intOf vi).toNat)
          case atStart => exact ⟨0, _, by omega, rfl, rfl, by omega, by omega, HV⟩
          case round =>
            obtain ⟨j, v, hj, rfl, rfl, hv1, hv2, he⟩ := hrel
            by_cases cj : j < n
            · by_cases cv : v < 60000
              · have hs := mn_succ j B hB0
                rw [← he.out] at hs
                by_cases c2 : 60000 < 2 * v
                · rw [if_pos c2] at hs
                  have HS := Lib.hid hs.symm
                  clear hs he
                  go_wp2
                  go_round
                  case rel => exact ⟨j + 1, 60000, by omega, by go_num, rfl, by omega, by omega, HS⟩
                  case measure => simp [intOf]; omega
                · rw [if_neg c2] at hs
                  have HS := Lib.hid hs.symm
                  clear hs he
                  go_wp2
                  go_round
                  case rel => exact ⟨j + 1, 2 * v, by omega, by go_num, rfl, by omega, by omega, HS⟩
                  case measure => simp [intOf]; omega
              · have hs := mn_stop n j B (by omega) hj (by rw [← he.out]; exact cv)
                have HS := Lib.hid (show s.time = v by rw [ht.out, hs, he.out])
                clear hs he
                go_wp2
                go_ret
                exact ⟨by rw [HS.out]; rfl, 1, rfl⟩
            · have e : j = n := by omega
              have HS := Lib.hid (show s.time = v by rw [ht.out, he.out, e])
              clear he e
              go_wp2
              go_ret
              exact ⟨by rw [HS.out]; rfl, 1, rfl⟩
  · have c2 : w.cell? ⟨b, 2, none⟩ = some (.bool false) := h.cell (by rw [← (show s.has = false by simpa using hh)]; rfl)
    have eb : s.base = 1000 := by unfold St.base; rw [if_neg hh]
    rw [eb, if_neg (by decide)] at hB
    clear hn hh ho h eb hbd
    have HV := Lib.hid (show 1000 = mn (ag 0 B) by rw [show ag 0 B = B from rfl]; unfold mn; rw [hB]; rfl)
    clear hB
    go_enter Try.func15, Try.ntmps15
    go_wp2
    go_loop [3, 4] (fun vt vi => ∃ (j : Nat) (v : Int), j ≤ n ∧ vi = .int .i64 j ∧ vt = .int .i64 v ∧ 200 ≤ v ∧ v ≤ 60000 ∧ Hid (v = mn (ag j B))) (fun _ vi => n - (intOf vi).toNat)
    case atStart => exact ⟨0, _, by omega, rfl, rfl, by omega, by omega, HV⟩
    case round =>
      obtain ⟨j, v, hj, rfl, rfl, hv1, hv2, he⟩ := hrel
      by_cases cj : j < n
      · by_cases cv : v < 60000
        · have hs := mn_succ j B hB0
          rw [← he.out] at hs
          by_cases c2 : 60000 < 2 * v
          · rw [if_pos c2] at hs
            have HS := Lib.hid hs.symm
            clear hs he
            go_wp2
            go_round
            case rel => exact ⟨j + 1, 60000, by omega, by go_num, rfl, by omega, by omega, HS⟩
            case measure => simp [intOf]; omega
          · rw [if_neg c2] at hs
            have HS := Lib.hid hs.symm
            clear hs he
            go_wp2
            go_round
            case rel => exact ⟨j + 1, 2 * v, by omega, by go_num, rfl, by omega, by omega, HS⟩
            case measure => simp [intOf]; omega
        · have hs := mn_stop n j B (by omega) hj (by rw [← he.out]; exact cv)
          have HS := Lib.hid (show s.time = v by rw [ht.out, hs, he.out])
          clear hs he
          go_wp2
          go_ret
          exact ⟨by rw [HS.out]; rfl, 0, rfl⟩
      · have e : j = n := by omega
        have HS := Lib.hid (show s.time = v by rw [ht.out, he.out, e])
        clear he e
        go_wp2
        go_ret
        exact ⟨by rw [HS.out]; rfl, 0, rfl⟩
end Go.Proofs.Ytfdbmpohegdpjaa.Rto
