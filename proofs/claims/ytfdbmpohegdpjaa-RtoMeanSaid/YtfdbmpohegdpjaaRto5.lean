import Derived.Test.YtfdbmpohegdpjaaRto4
namespace Go.Proofs.Ytfdbmpohegdpjaa.Rto
open Go.RowKit Blk
set_option linter.unusedVariables false

/-- The mean's eightfold lies between. -/
def Mid (s : St) (l m : Int) : Prop := s.has = true → 8 * l - 7 ≤ s.m ∧ s.m ≤ 8 * m

theorem measure_pos (s : St) (x : Int) (h : 0 ≤ x ∧ x ≤ 1099511627776) : s.measure x = s.next x := by
  unfold St.measure cut; rw [if_neg (by omega), if_neg (by omega)]
theorem next_has (s : St) (x : Int) : (s.next x).has = true := by unfold St.next; split <;> rfl
theorem mid_step (s : St) (ho : s.Ok) (x l m l2 m2 : Int) (h : 0 ≤ x ∧ x ≤ 1099511627776) (hl : 0 ≤ l2) (hi : Mid s l m) (h1 : l2 ≤ x) (h2 : l2 ≤ l) (h3 : x ≤ m2) (h4 : m ≤ m2) :
    8 * l2 - 7 ≤ (s.measure x).m ∧ (s.measure x).m ≤ 8 * m2 := by
  rw [measure_pos s x h]
  have := ho.m0
  unfold St.next
  split
  · rename_i hh
    obtain ⟨a, b⟩ := hi hh
    show 8 * l2 - 7 ≤ s.m + (x - s.m / 8) ∧ s.m + (x - s.m / 8) ≤ 8 * m2
    omega
  · show 8 * l2 - 7 ≤ 8 * x ∧ 8 * x ≤ 8 * m2
    omega

/-- How far one measure that comes again and again is off at most. -/
def G : Nat → Int
  | 0 => 2097152
  | 1 => 2097152
  | n + 2 => G (n + 1) - G (n + 1) / 4
theorem G60 : G 60 ≤ 4 := by decide +kernel

/-- Behind j measures that are all t. -/
def Even (t : Int) (s : St) (was : Int) (j : Nat) : Prop :=
  (j = 0 ∧ s = St.zero ∧ was = 4611686018427387904) ∨ (1 ≤ j ∧ s.has = true ∧ s.m = 8 * t ∧ 0 ≤ s.o ∧ s.o ≤ 2147483648 ∧ was = s.o / 4 ∧ s.bk = 0 ∧ (t ≤ 1048576 → s.o ≤ G j))
theorem even_step (t : Int) (s : St) (was : Int) (j : Nat) (ht : 0 ≤ t ∧ t ≤ 1073741824) (h : Even t s was j) :
    (s.measure t).m / 8 = t ∧ (s.measure t).o / 4 ≤ was ∧ Even t (s.measure t) ((s.measure t).o / 4) (j + 1) := by
  rw [measure_pos s t (by omega)]
  rcases h with ⟨rfl, rfl, rfl⟩ | ⟨hj, hh, hm, h0, h1, hw, hb, hg⟩
  · have e : St.zero.next t = ⟨8 * t, 2 * t, true, 0⟩ := rfl
    rw [e]
    refine ⟨show 8 * t / 8 = t by omega, show 2 * t / 4 ≤ _ by omega, .inr ⟨Nat.le_refl _, rfl, rfl, show 0 ≤ 2 * t by omega, show 2 * t ≤ 2147483648 by omega, rfl, rfl, fun h => ?_⟩⟩
    show 2 * t ≤ 2097152
    omega
  · have e : s.next t = ⟨s.m + (t - s.m / 8), off s t, true, 0⟩ := by unfold St.next; rw [if_pos hh]
    have eo : off s t = s.o - s.o / 4 := by unfold off; rw [hm]; split <;> omega
    rw [e, eo]
    refine ⟨show (s.m + (t - s.m / 8)) / 8 = t by omega, show (s.o - s.o / 4) / 4 ≤ was by omega, .inr ⟨by omega, rfl, show s.m + (t - s.m / 8) = 8 * t by omega, show 0 ≤ s.o - s.o / 4 by omega, show s.o - s.o / 4 ≤ 2147483648 by omega, rfl, rfl, fun h => ?_⟩⟩
    have hg := hg h
    obtain ⟨n, rfl⟩ : ∃ n, j = n + 1 := ⟨j - 1, by omega⟩
    show s.o - s.o / 4 ≤ G (n + 1) - G (n + 1) / 4
    omega
theorem even_time (t : Int) (s : St) (was : Int) (ht : 0 ≤ t ∧ t ≤ 1048576) (h : Even t s was 60) : s.time ≤ (if t + 4 < 200 then 200 else t + 4) := by
  rcases h with ⟨h, _⟩ | ⟨_, hh, hm, h0, h1, hw, hb, hg⟩
  · omega
  have hg := Int.le_trans (hg ht.2) G60
  have e : s.base = t + (if s.o < 1 then 1 else s.o) := by unfold St.base; rw [if_pos hh, hm]; congr 1; omega
  unfold St.time
  rw [hb, e]
  simp only [ag, Int.toNat_zero]
  split <;> split <;> split <;> split <;> omega

set_option maxHeartbeats 8000000 in
set_option maxRecDepth 100000 in
theorem mean_k (a : Option Addr) (len cap : Nat) (zs : List Int) (t : Int) (w : World) (hr : IsRow .i64 w a len cap zs) (ht : -9223372036854775808 ≤ t ∧ t ≤ 9223372036854775807) (hlen : len ≤ 9223372036854775807) :
    Calls Try.prog 5 #[.slice a len cap, .int .i64 t] w fun e w' => e = .returned (.bool true) ∧ Below w.heap.size w w' := by
  by_cases c0 : 300 < len
  · skip
    go_enter Try.func5, Try.ntmps5
    go_wp2_with fail
    refine (alive_k w w (Below.refl _ _)).mono ?_
    rintro e w1 ⟨rfl, hb⟩
    go_wp2
    go_ret
    exact ⟨rfl, hb⟩
  by_cases c1 : len = 0
  · subst c1
    go_enter Try.func5, Try.ntmps5
    go_wp2_with fail
    refine (alive_k w w (Below.refl _ _)).mono ?_
    rintro e w1 ⟨rfl, hb⟩
    go_wp2
    go_ret
    exact ⟨rfl, hb⟩
  have p1 : ((len : Int) == 0) = false := beq_eq_false_iff_ne.2 (by omega)
  by_cases c2 : t < 0
  · skip
    go_enter Try.func5, Try.ntmps5
    go_wp2_with fail
    refine (alive_k w w (Below.refl _ _)).mono ?_
    rintro e w1 ⟨rfl, hb⟩
    go_wp2
    go_ret
    exact ⟨rfl, hb⟩
  by_cases c3 : 1073741824 < t
  · skip
    go_enter Try.func5, Try.ntmps5
    go_wp2_with fail
    refine (alive_k w w (Below.refl _ _)).mono ?_
    rintro e w1 ⟨rfl, hb⟩
    go_wp2
    go_ret
    exact ⟨rfl, hb⟩
  have HR := Lib.hid (row_at hr)
  clear hr hlen c1
  go_enter Try.func5, Try.ntmps5
  go_wp2_with fail
  refine (new_l w w (Below.refl _ _)).mono ?_
  rintro e w1 ⟨rfl, HL⟩
  go_wp2
  generalize w.heap.size = b at HL ⊢
  go_loopw [6, 7, 8] (fun vl vm vi wr => ∃ (k : Nat) (s : St) (l m : Int), k ≤ len ∧ vi = .int .i64 k ∧ vl = .int .i64 l ∧ vm = .int .i64 m ∧ 0 ≤ l ∧ l ≤ 1099511627776 ∧ 0 ≤ m ∧ m ≤ 1099511627776 ∧ Lone w b s wr ∧ s.Ok ∧ Hid (Mid s l m)) (fun _ _ vi _ => len - (intOf vi).toNat)
  case atStart => exact ⟨0, St.zero, _, _, Nat.zero_le _, rfl, rfl, rfl, by omega, by omega, by omega, by omega, HL, St.Ok.zero, Lib.hid (fun h => by cases h)⟩
  case round =>
    clear HL
    obtain ⟨k, s, l, m, hk, rfl, rfl, rfl, hl0, hl1, hm0, hm1, HL, ho, hmid⟩ := hrel
    by_cases hlt : k < len
    · obtain ⟨bb, off, ea, hcell, _⟩ := HR.out.resolve_left (by omega)
      subst ea
      obtain ⟨y, hy⟩ : ∃ y, zs.getD k 0 = y := ⟨_, rfl⟩
      have hck := cell_later (n := 0) HL.below (hcell k hlt)
      rw [hy] at hck
      clear hcell hy
      by_cases cy : y ≤ 0
      · by_cases cl : 0 < l
        · skip
          go_wp2_with fail
          refine (measure_l _ HL ho).mono ?_
          clear HL
          rintro e w2 ⟨rfl, HL⟩
          have ho2 := measure_ok s ho 0
          have hm := mid_step s ho 0 l m 0 m (by omega) (by omega) hmid.out (by omega) (by omega) (by omega) (by omega)
          generalize s.measure 0 = s2 at *
          clear hck hmid ho
          have hmid2 := Lib.hid (show Mid s2 0 m from fun _ => hm)
          have hm0 := ho2.m0
          go_wp2_with fail
          refine (smooth_l HL ho2).mono ?_
          clear HL
          rintro e w3 ⟨rfl, HL⟩
          go_wp2
          go_roundw
          case rel => exact ⟨k + 1, s2, 0, m, by omega, by go_num, rfl, rfl, by omega, by omega, by omega, by omega, HL, ho2, hmid2⟩
          case measure => simp [intOf]; omega
        · skip
          go_wp2_with fail
          refine (measure_l _ HL ho).mono ?_
          clear HL
          rintro e w2 ⟨rfl, HL⟩
          have ho2 := measure_ok s ho 0
          have hm := mid_step s ho 0 l m l m (by omega) (by omega) hmid.out (by omega) (by omega) (by omega) (by omega)
          generalize s.measure 0 = s2 at *
          clear hck hmid ho
          have hmid2 := Lib.hid (show Mid s2 l m from fun _ => hm)
          have hm0 := ho2.m0
          go_wp2_with fail
          refine (smooth_l HL ho2).mono ?_
          clear HL
          rintro e w3 ⟨rfl, HL⟩
          go_wp2
          go_roundw
          case rel => exact ⟨k + 1, s2, l, m, by omega, by go_num, rfl, rfl, by omega, by omega, by omega, by omega, HL, ho2, hmid2⟩
          case measure => simp [intOf]; omega
      by_cases cb : 1099511627776 < y
      · by_cases cm : m < 1099511627776
        · skip
          go_wp2_with fail
          refine (measure_l _ HL ho).mono ?_
          clear HL
          rintro e w2 ⟨rfl, HL⟩
          have ho2 := measure_ok s ho 1099511627776
          have hm := mid_step s ho 1099511627776 l m l 1099511627776 (by omega) (by omega) hmid.out (by omega) (by omega) (by omega) (by omega)
          generalize s.measure 1099511627776 = s2 at *
          clear hck hmid ho
          have hmid2 := Lib.hid (show Mid s2 l 1099511627776 from fun _ => hm)
          have hm0 := ho2.m0
          go_wp2_with fail
          refine (smooth_l HL ho2).mono ?_
          clear HL
          rintro e w3 ⟨rfl, HL⟩
          go_wp2
          go_roundw
          case rel => exact ⟨k + 1, s2, l, 1099511627776, by omega, by go_num, rfl, rfl, by omega, by omega, by omega, by omega, HL, ho2, hmid2⟩
          case measure => simp [intOf]; omega
        · skip
          go_wp2_with fail
          refine (measure_l _ HL ho).mono ?_
          clear HL
          rintro e w2 ⟨rfl, HL⟩
          have ho2 := measure_ok s ho 1099511627776
          have hm := mid_step s ho 1099511627776 l m l m (by omega) (by omega) hmid.out (by omega) (by omega) (by omega) (by omega)
          generalize s.measure 1099511627776 = s2 at *
          clear hck hmid ho
          have hmid2 := Lib.hid (show Mid s2 l m from fun _ => hm)
          have hm0 := ho2.m0
          go_wp2_with fail
          refine (smooth_l HL ho2).mono ?_
          clear HL
          rintro e w3 ⟨rfl, HL⟩
          go_wp2
          go_roundw
          case rel => exact ⟨k + 1, s2, l, m, by omega, by go_num, rfl, rfl, by omega, by omega, by omega, by omega, HL, ho2, hmid2⟩
          case measure => simp [intOf]; omega
      by_cases cl : y < l
      · by_cases cm : m < y
        · skip
          go_wp2_with fail
          refine (measure_l _ HL ho).mono ?_
          clear HL
          rintro e w2 ⟨rfl, HL⟩
          have ho2 := measure_ok s ho y
          have hm := mid_step s ho y l m y y (by omega) (by omega) hmid.out (by omega) (by omega) (by omega) (by omega)
          generalize s.measure y = s2 at *
          clear hck hmid ho
          have hmid2 := Lib.hid (show Mid s2 y y from fun _ => hm)
          have hm0 := ho2.m0
          go_wp2_with fail
          refine (smooth_l HL ho2).mono ?_
          clear HL
          rintro e w3 ⟨rfl, HL⟩
          go_wp2
          go_roundw
          case rel => exact ⟨k + 1, s2, y, y, by omega, by go_num, rfl, rfl, by omega, by omega, by omega, by omega, HL, ho2, hmid2⟩
          case measure => simp [intOf]; omega
        · skip
          go_wp2_with fail
          refine (measure_l _ HL ho).mono ?_
          clear HL
          rintro e w2 ⟨rfl, HL⟩
          have ho2 := measure_ok s ho y
          have hm := mid_step s ho y l m y m (by omega) (by omega) hmid.out (by omega) (by omega) (by omega) (by omega)
          generalize s.measure y = s2 at *
          clear hck hmid ho
          have hmid2 := Lib.hid (show Mid s2 y m from fun _ => hm)
          have hm0 := ho2.m0
          go_wp2_with fail
          refine (smooth_l HL ho2).mono ?_
          clear HL
          rintro e w3 ⟨rfl, HL⟩
          go_wp2
          go_roundw
          case rel => exact ⟨k + 1, s2, y, m, by omega, by go_num, rfl, rfl, by omega, by omega, by omega, by omega, HL, ho2, hmid2⟩
          case measure => simp [intOf]; omega
      · by_cases cm : m < y
        · skip
          go_wp2_with fail
          refine (measure_l _ HL ho).mono ?_
          clear HL
          rintro e w2 ⟨rfl, HL⟩
          have ho2 := measure_ok s ho y
          have hm := mid_step s ho y l m l y (by omega) (by omega) hmid.out (by omega) (by omega) (by omega) (by omega)
          generalize s.measure y = s2 at *
          clear hck hmid ho
          have hmid2 := Lib.hid (show Mid s2 l y from fun _ => hm)
          have hm0 := ho2.m0
          go_wp2_with fail
          refine (smooth_l HL ho2).mono ?_
          clear HL
          rintro e w3 ⟨rfl, HL⟩
          go_wp2
          go_roundw
          case rel => exact ⟨k + 1, s2, l, y, by omega, by go_num, rfl, rfl, by omega, by omega, by omega, by omega, HL, ho2, hmid2⟩
          case measure => simp [intOf]; omega
        · skip
          go_wp2_with fail
          refine (measure_l _ HL ho).mono ?_
          clear HL
          rintro e w2 ⟨rfl, HL⟩
          have ho2 := measure_ok s ho y
          have hm := mid_step s ho y l m l m (by omega) (by omega) hmid.out (by omega) (by omega) (by omega) (by omega)
          generalize s.measure y = s2 at *
          clear hck hmid ho
          have hmid2 := Lib.hid (show Mid s2 l m from fun _ => hm)
          have hm0 := ho2.m0
          go_wp2_with fail
          refine (smooth_l HL ho2).mono ?_
          clear HL
          rintro e w3 ⟨rfl, HL⟩
          go_wp2
          go_roundw
          case rel => exact ⟨k + 1, s2, l, m, by omega, by go_num, rfl, rfl, by omega, by omega, by omega, by omega, HL, ho2, hmid2⟩
          case measure => simp [intOf]; omega
    · obtain rfl : k = len := by omega
      have hB := HL.below
      clear HL hmid ho hk hlt hl0 hl1 hm0 hm1
      go_wp2_with fail
      refine (new_l w wr hB).mono ?_
      clear hB
      rintro e w1 ⟨rfl, HL⟩
      go_wp2
      generalize wr.heap.size = b2 at HL ⊢
      go_loopw [13, 14] (fun vw vi wr => ∃ (j : Nat) (s2 : St) (was : Int), j ≤ 60 ∧ vi = .int .i64 j ∧ vw = .int .i64 was ∧ Lone w b2 s2 wr ∧ s2.Ok ∧ Hid (Even t s2 was j)) (fun _ vi _ => 60 - (intOf vi).toNat)
      case atStart => exact ⟨0, St.zero, _, by omega, rfl, rfl, HL, St.Ok.zero, Lib.hid (.inl ⟨rfl, rfl, rfl⟩)⟩
      case round =>
        clear HL
        obtain ⟨j, s2, was, hj, rfl, rfl, HL, ho, he⟩ := hrel
        by_cases hlt : j < 60
        · obtain ⟨e1, e2, e3⟩ := even_step t s2 was j ⟨by omega, by omega⟩ he.out
          have ho3 := measure_ok s2 ho t
          have E1 := Lib.hid e1
          have E3 := Lib.hid e3
          clear e1 e3 he
          go_wp2_with fail
          refine (measure_l _ HL ho).mono ?_
          clear HL ho
          rintro e w2 ⟨rfl, HL⟩
          generalize s2.measure t = s3 at *
          go_wp2_with fail
          refine (smooth_l HL ho3).mono ?_
          clear HL
          rintro e w3 ⟨rfl, HL⟩
          rw [E1.out]
          go_wp2
          go_roundw
          case rel => exact ⟨j + 1, s3, _, by omega, by go_num, rfl, HL, ho3, E3⟩
          case measure => simp [intOf]; omega
        · obtain rfl : j = 60 := by omega
          clear hlt hj
          have hb := time_bd s2 ho
          by_cases ct : t ≤ 1048576
          · have hT := even_time t s2 was ⟨by omega, ct⟩ he.out
            clear he
            by_cases c4 : t + 4 < 200
            · rw [if_pos c4] at hT
              go_wp2_with fail
              refine (time_l HL ho).mono ?_
              clear HL ho
              rintro e w2 ⟨rfl, HL⟩
              generalize s2.time = T at *
              go_wp2_with fail
              refine (alive_k w _ HL.below).mono ?_
              rintro e w7 ⟨rfl, hb⟩
              go_wp2
              go_ret
              exact ⟨by first | rfl | (simp; done), hb⟩
            · rw [if_neg c4] at hT
              go_wp2_with fail
              refine (time_l HL ho).mono ?_
              clear HL ho
              rintro e w2 ⟨rfl, HL⟩
              generalize s2.time = T at *
              go_wp2_with fail
              refine (alive_k w _ HL.below).mono ?_
              rintro e w7 ⟨rfl, hb⟩
              go_wp2
              go_ret
              exact ⟨by first | rfl | (simp; done), hb⟩
          · clear he
            go_wp2_with fail
            refine (time_l HL ho).mono ?_
            clear HL ho
            rintro e w2 ⟨rfl, HL⟩
            generalize s2.time = T at *
            have c5 : T ≤ t + 4 := by omega
            go_wp2_with fail
            refine (alive_k w _ HL.below).mono ?_
            rintro e w7 ⟨rfl, hb⟩
            go_wp2
            go_ret
            exact ⟨by first | rfl | (simp; done), hb⟩
end Go.Proofs.Ytfdbmpohegdpjaa.Rto
