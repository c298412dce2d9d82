-- Laid by a program of this session: the print tool's way, with this session's own walks of some functions laid in.
import Derived.Test.YtpieabhpgefbnaaPWordBackx0
namespace Go.Proofs.Ytpieabhpgefbnaa.PWordBack
open Go.RowKit Go.Proofs.YtpieabhpgefbnaaW.PrintWords Go.Proofs.YtpieabhpgefbnaaW.PrintLast Go.Proofs.YtpieabhpgefbnaaW.PrintMore
attribute [local go_sem] Int.emod_add_emod Int.add_emod_emod Int.emod_sub_emod Int.sub_emod_emod max2_int min2_int max_two min_two max_three min_three max_four min_four   -- for this text's walks alone
set_option linter.unusedVariables false
set_option linter.unusedSimpArgs false

/-! ### word_Text: function 12 -/
def word_Text.j0 : Nat → ByteArray → Int → Int → Bool → Option (ByteArray × Int)
  | 0, _, _, _, _ => none
  | k + 1, x0, x1, x2, x8 => if x8 = true then (some ((⟨#[]⟩ : ByteArray), 2)) else (if x1 > (x0.size : Int) then (some ((⟨#[]⟩ : ByteArray), 10)) else (if x2 > (wrap64 ((x0.size : Int) - x1)) then (some ((⟨#[]⟩ : ByteArray), 10)) else (if 0 ≤ x1 then (if x1 ≤ (wrap64 (x1 + x2)) then (if (wrap64 (x1 + x2)) ≤ (x0.size : Int) then (some (x0.extract (x1 : Int).toNat ((wrap64 (x1 + x2)) : Int).toNat, 0)) else (none)) else (none)) else (none))))
def word_Text.f (k : Nat) (a0 : ByteArray) (a1 : Int) (a2 : Int) : Option (ByteArray × Int) := if a1 < 0 then (word_Text.j0 k a0 a1 a2 true) else (word_Text.j0 k a0 a1 a2 (decide (a2 < 0)))
theorem word_Text.mono_l : ∀ k, (∀ y0 y1 y2 y3, LeO (word_Text.j0 k y0 y1 y2 y3) (word_Text.j0 (k + 1) y0 y1 y2 y3))
  | 0 => fun _ _ _ _ r h => by simp [word_Text.j0] at h
  | k + 1 => by
    have ih0 := word_Text.mono_l k
    · intro y0 y1 y2 y3
      unfold word_Text.j0
      repeat' first
      | (with_reducible exact ih0 _ _ _ _)
      | (with_reducible exact LeO.refl _)
      | (with_reducible exact LeO.none _)
      | (with_reducible refine LeO.ite ?_ ?_)
      | (with_reducible refine LeO.bind ?_ (fun _ => ?_))
      | exact ih0 _ _ _ _
      | exact LeO.none _
      | refine LeO.ite ?_ ?_
      | refine LeO.bind ?_ (fun _ => ?_)
theorem word_Text.mono : ∀ a0 a1 a2 k, LeO (word_Text.f k a0 a1 a2) (word_Text.f (k + 1) a0 a1 a2) := by
  intro a0 a1 a2 k
  have ih0 := word_Text.mono_l k
  unfold word_Text.f
  repeat' first
      | (with_reducible exact ih0 _ _ _ _)
      | (with_reducible exact LeO.refl _)
      | (with_reducible exact LeO.none _)
      | (with_reducible refine LeO.ite ?_ ?_)
      | (with_reducible refine LeO.bind ?_ (fun _ => ?_))
      | exact ih0 _ _ _ _
      | exact LeO.none _
      | refine LeO.ite ?_ ?_
      | refine LeO.bind ?_ (fun _ => ?_)
set_option maxHeartbeats 8000000 in
set_option maxRecDepth 100000 in
theorem word_Text.calls (k : Nat) (a0 : ByteArray) (a1 : Int) (a2 : Int) (r1 : ByteArray) (r2 : Int) (w : World) (h : word_Text.f k a0 a1 a2 = some (r1, r2)) :
    Calls Try.prog 12 #[.string a0, .int .i64 a1, .int .i64 a2] w fun e w' => e = .returned (.tuple #[.string r1, .int .i64 r2]) ∧ Drawn0 w w' := by
  have H : (if a1 < 0 then (word_Text.j0 k a0 a1 a2 true) else (word_Text.j0 k a0 a1 a2 (decide (a2 < 0)))) = some (r1, r2) := h
  clear h
  have HC4 := Aside0.mk H
  clear H
  go_enter Try.func12, Try.ntmps12
  go_upto_region 1 with (fail)
  go_cut [8] (fun v8 wc => ∃ (kq : Nat) (x8_3 : Bool), v8 = .bool x8_3 ∧ Aside0 (word_Text.j0 kq a0 a1 a2 x8_3 = some (r1, r2)) ∧ Aside0 (kq ≤ k) ∧ Drawn0 w wc)
  case first =>
    have H := HC4.out
    clear HC4
    by_cases c5 : a1 < 0
    · rw [if_pos c5] at H
      have c5b0 : decide (a1 < 0) = true := decide_eq_true c5
      clear c5
      (first | rw [c5b0] | (simp only [i64_w, i32_w]; rw [c5b0]) | skip)
      have H' := Aside0.mk H
      clear H
      go_wp2
      go_meet
      case rel => exact ⟨_, (true), (by first | rfl | (simp; done) | (simp [*]; done)), H', ⟨by first | omega | exact Nat.le_refl _⟩, by repeat (first | exact Drawn0.refl _ | apply Drawn0.step)⟩
    · rw [if_neg c5] at H
      have c5b0 : decide (a1 < 0) = false := decide_eq_false c5
      clear c5
      (first | rw [c5b0] | (simp only [i64_w, i32_w]; rw [c5b0]) | skip)
      have H' := Aside0.mk H
      clear H
      go_wp2
      go_meet
      case rel => exact ⟨_, (decide (a2 < 0)), (by first | rfl | (simp; done) | (simp [*]; done)), H', ⟨by first | omega | exact Nat.le_refl _⟩, by repeat (first | exact Drawn0.refl _ | apply Drawn0.step)⟩
  case rest =>
    clear HC4
    try clear c1
    try clear p2
    try clear c5
    try clear c5b0
    obtain ⟨kq, x8_3, rfl, HA, HJ3, ⟨mc3, rfl⟩⟩ := hcut
    cases kq with
    | zero => exact absurd HA.out (by simp [word_Text.j0])
    | succ kj3 =>
      have H := HA.out
      clear HA
      simp only [word_Text.j0] at H
      by_cases c6 : x8_3 = true
      · subst c6
        have H1 : (some ((⟨#[]⟩ : ByteArray), 2)) = some (r1, r2) := by rw [if_pos rfl] at H; exact H
        clear H
        have H := H1
        clear H1
        simp only [Option.some.injEq, Prod.mk.injEq] at H
        obtain ⟨rfl, rfl⟩ := H
        go_wp2
        go_ret2
        exact ⟨by first | rfl | (simp; done) | (simp [*]; done), by repeat (first | exact Drawn0.refl _ | apply Drawn0.step)⟩
      · replace c6 := Bool.eq_false_iff.mpr c6
        subst c6
        have H1 : (if a1 > (a0.size : Int) then (some ((⟨#[]⟩ : ByteArray), 10)) else (if a2 > (wrap64 ((a0.size : Int) - a1)) then (some ((⟨#[]⟩ : ByteArray), 10)) else (if 0 ≤ a1 then (if a1 ≤ (wrap64 (a1 + a2)) then (if (wrap64 (a1 + a2)) ≤ (a0.size : Int) then (some (a0.extract (a1 : Int).toNat ((wrap64 (a1 + a2)) : Int).toNat, 0)) else (none)) else (none)) else (none)))) = some (r1, r2) := by rw [if_neg (show ¬ (false = true) by decide)] at H; exact H
        clear H
        have H := H1
        clear H1
        by_cases c7 : a1 > (a0.size : Int)
        · rw [if_pos c7] at H
          have c7b0 : decide ((a0.size : Int) < a1) = true := decide_eq_true c7
          clear c7
          simp only [Option.some.injEq, Prod.mk.injEq] at H
          obtain ⟨rfl, rfl⟩ := H
          go_wp2
          go_ret2
          exact ⟨by first | rfl | (simp; done) | (simp [*]; done), by repeat (first | exact Drawn0.refl _ | apply Drawn0.step)⟩
        · rw [if_neg c7] at H
          have c7b0 : decide ((a0.size : Int) < a1) = false := decide_eq_false c7
          clear c7
          by_cases c8 : a2 > (wrap64 ((a0.size : Int) - a1))
          · rw [if_pos c8] at H
            have c8b0 : decide ((wrap64 ((a0.size : Int) - a1)) < a2) = true := decide_eq_true c8
            clear c8
            simp only [Option.some.injEq, Prod.mk.injEq] at H
            obtain ⟨rfl, rfl⟩ := H
            go_wp2
            go_ret2
            exact ⟨by first | rfl | (simp; done) | (simp [*]; done), by repeat (first | exact Drawn0.refl _ | apply Drawn0.step)⟩
          · rw [if_neg c8] at H
            have c8b0 : decide ((wrap64 ((a0.size : Int) - a1)) < a2) = false := decide_eq_false c8
            clear c8
            by_cases c9 : 0 ≤ a1
            · rw [if_pos c9] at H
              have c9b0 := eq_true c9
              have c9b1 : decide (0 ≤ a1) = true := decide_eq_true c9
              clear c9
              by_cases c10 : a1 ≤ (wrap64 (a1 + a2))
              · rw [if_pos c10] at H
                have c10b0 := eq_true c10
                have c10b1 : decide (a1 ≤ (wrap64 (a1 + a2))) = true := decide_eq_true c10
                by_cases c11 : (wrap64 (a1 + a2)) ≤ (a0.size : Int)
                · rw [if_pos c11] at H
                  have c11b0 := eq_true c11
                  have c11b1 : decide ((wrap64 (a1 + a2)) ≤ (a0.size : Int)) = true := decide_eq_true c11
                  simp only [Option.some.injEq, Prod.mk.injEq] at H
                  obtain ⟨rfl, rfl⟩ := H
                  go_wp2
                  go_ret2
                  exact ⟨by first | rfl | (simp; done) | (simp [*]; done), by repeat (first | exact Drawn0.refl _ | apply Drawn0.step)⟩
                · rw [if_neg c11] at H
                  exact absurd H (by simp)
              · rw [if_neg c10] at H
                exact absurd H (by simp)
            · rw [if_neg c9] at H
              exact absurd H (by simp)

/-! ### word_read_uint8: function 19 -/
-- HAND making rounds needs=stevedore/word.Text
def word_read_uint8.f (k : Nat) (a0 : ByteArray) (a1 a2 : Int) : Option (Int × Int) :=
  (word_Text.f k a0 a1 a2).bind fun p => if p.1.size ≤ 1 then some ((Aid.numN p.1.data.toList : Int), p.2) else none

set_option maxHeartbeats 2000000 in
theorem word_read_uint8.calls (k : Nat) (a0 : ByteArray) (a1 a2 : Int) (r1 r2 : Int) (w : World) (h : word_read_uint8.f k a0 a1 a2 = some (r1, r2)) :
    Calls Try.prog 19 #[.string a0, .int .i64 a1, .int .i64 a2] w fun e w' => e = .returned (.tuple #[.int .u8 r1, .int .i64 r2]) ∧ Below w.heap.size w w' := by
  obtain ⟨⟨t, e0⟩, ht, h⟩ := Option.bind_eq_some_iff.mp h
  by_cases hs : t.size ≤ 1
  · rw [if_pos hs] at h
    obtain ⟨rfl, rfl⟩ := Prod.mk.inj (Option.some.inj h)
    clear h
    have hcv := fun (W : World) => Lib.run_convert_string_bytes (P := Try.prog) W 9 55 5 t Try.underlying9 Try.underlying55 Try.underlying5
    go_enter Try.func19, Try.ntmps19
    go_wp2_with fail
    refine (word_Text.calls k a0 a1 a2 t e0 _ ht).mono ?_
    rintro e w' ⟨rfl, ⟨nd, rfl⟩⟩
    go_wp2
    have hc : ∀ j, j < t.size → (Lib.bytesWorld (w.drewN nd) 5 t).cell? ⟨w.heap.size, j, none⟩ = some (.int .u8 ((t.data.toList.getD j 0).toNat : Int)) := by
      intro j hj
      have := Lib.bytesWorld_cell (w.drewN nd) 5 t j hj
      simpa using this
    have hB := Aside0.mk (show Below w.heap.size w (Lib.bytesWorld (w.drewN nd) 5 t) from ⟨rfl, rfl, rfl, by rw [Lib.bytesWorld_size]; simp, fun j hj => by rw [Lib.bytesWorld_at_old _ _ _ _ (by simpa using hj)]; rfl⟩)
    clear hcv
    generalize Lib.bytesWorld (w.drewN nd) 5 t = W at *
    go_loop [6, 21] (fun x i => ∃ k : Nat, k ≤ t.size ∧ i = .int .i64 k ∧ x =   .int .u8 (Aid.numN (t.data.toList.take k))) (fun _ i => t.size - (intOf i).toNat)
    case atStart => exact ⟨0, Nat.zero_le _, rfl, rfl⟩
    case round =>
      obtain ⟨k, hk, rfl, rfl⟩ := hrel
      by_cases hlt : k < t.size
      · have hck := hc k hlt
        have hb := Aid.byte_lt t.data.toList k
        have hn := Aid.numN_lt (t.data.toList.take k)
        rw [List.length_take_of_le (by simpa using hk)] at hn
        have hp := Aid.pow_le 0 (show k ≤ 0 by omega)
        have hx : Aid.numN (t.data.toList.take k) < 1 := Nat.lt_of_lt_of_le hn hp
        clear hn hp
        have hs1 : Aid.numN (t.data.toList.take (k + 1)) = 256 * Aid.numN (t.data.toList.take k) + (t.data.toList.getD k 0).toNat := by rw [Aid.take_snoc t k hlt, Aid.numN_snoc]
        have HS := Lib.hid hs1
        clear hs1 hc
        generalize Aid.numN (t.data.toList.take k) = X at *
        generalize (t.data.toList.getD k 0).toNat = C at *
        go_wp2
        go_round
        case rel =>
          refine ⟨k + 1, by omega, by go_num, ?_⟩
          rw [HS.out, Aid.join8 _ _ (by omega) (by omega) (by omega) (by omega)]; congr 1; try rw [Aid.wrap_u16]
          omega
        case measure => simp [intOf]; omega
      · have hk' : k = t.size := by omega
        subst hk'
        have ht : t.data.toList.take t.size = t.data.toList := List.take_of_length_le (by simp)
        rw [ht]
        go_wp2
        go_ret2
        exact ⟨rfl, hB.out⟩
  · rw [if_neg hs] at h; cases h
theorem word_read_uint8.mono : ∀ a0 a1 a2 k, LeO (word_read_uint8.f k a0 a1 a2) (word_read_uint8.f (k + 1) a0 a1 a2) := by
  intro a0 a1 a2 k
  unfold word_read_uint8.f
  exact LeO.bind (word_Text.mono _ _ _ _) (fun _ => LeO.refl _)

/-! ### word_Byte: function 7 -/
def word_Byte.f (k : Nat) (a0 : ByteArray) (a1 : Int) : Option (Int × Int) := (word_read_uint8.f k a0 a1 1).bind fun bt101 => (some (bt101.1, bt101.2))
theorem word_Byte.mono : ∀ a0 a1 k, LeO (word_Byte.f k a0 a1) (word_Byte.f (k + 1) a0 a1) := by
  intro a0 a1 k
  unfold word_Byte.f
  repeat' first
      | (with_reducible exact word_read_uint8.mono _ _ _ _)
      | (with_reducible exact LeO.refl _)
      | (with_reducible exact LeO.none _)
      | (with_reducible refine LeO.ite ?_ ?_)
      | (with_reducible refine LeO.bind ?_ (fun _ => ?_))
      | exact word_read_uint8.mono _ _ _ _
      | exact LeO.none _
      | refine LeO.ite ?_ ?_
      | refine LeO.bind ?_ (fun _ => ?_)
set_option maxHeartbeats 8000000 in
set_option maxRecDepth 100000 in
theorem word_Byte.calls (k : Nat) (a0 : ByteArray) (a1 : Int) (r1 : Int) (r2 : Int) (w : World) (h : word_Byte.f k a0 a1 = some (r1, r2)) :
    Calls Try.prog 7 #[.string a0, .int .i64 a1] w fun e w' => e = .returned (.tuple #[.int .u8 r1, .int .i64 r2]) ∧ Below w.heap.size w w' := by
  have HB := Aside0.mk (Below.refl w.heap.size w)
  have H : ((word_read_uint8.f k a0 a1 1).bind fun bt101 => (some (bt101.1, bt101.2))) = some (r1, r2) := h
  clear h
  replace H := Option.bind_eq_some_iff.mp H
  obtain ⟨⟨t101, t102⟩, A30, H⟩ := H
  replace H : (some (t101, t102)) = some (r1, r2) := H
  have A3 := Aside0.mk A30
  clear A30
  simp only [Option.some.injEq, Prod.mk.injEq] at H
  obtain ⟨rfl, rfl⟩ := H
  go_enter Try.func7, Try.ntmps7
  go_wp2_with (first | ((with_reducible refine gate_callee (f := 19) rfl ?_); refine goesL_ (some 8) rfl rfl Try.func19 (by kernel_rfl) rfl #[.string a0, .int .i64 a1, .int .i64 1] rfl (by (try simp only [List.map_toArray, List.map_cons, List.map_nil]); first | done | rfl | (simp only [List.length_drop, List.length_take]; rfl)) ?_; (with_reducible refine (word_read_uint8.calls k a0 a1 1 t101 t102 _ A3.out).mono ?_); rintro e w4 ⟨rfl, hb⟩; refine ⟨_, rfl, ?_⟩; have n0_ := Aside0.mk (below_step (by repeat (first | (with_reducible first | exact HB.out | apply below_alloc | apply pw_below_drewN | apply below_drew1) | exact HB.out)) hb); clear HB; have HB := n0_; clear n0_; (try clear hb); (try clear hb2); (try clear hk); (try clear hi)))
  go_ret2
  exact ⟨by first | rfl | (simp [errW_none, errW_some] <;> rfl) | (simp [*, errW_none, errW_some] <;> rfl), by repeat (first | (with_reducible first | exact HB.out | apply below_alloc | apply pw_below_drewN | apply below_drew1) | exact HB.out)⟩

/-! ### word_read_uint16: function 20 -/
-- HAND making rounds needs=stevedore/word.Text
def word_read_uint16.f (k : Nat) (a0 : ByteArray) (a1 a2 : Int) : Option (Int × Int) :=
  (word_Text.f k a0 a1 a2).bind fun p => if p.1.size ≤ 2 then some ((Aid.numN p.1.data.toList : Int), p.2) else none

set_option maxHeartbeats 2000000 in
theorem word_read_uint16.calls (k : Nat) (a0 : ByteArray) (a1 a2 : Int) (r1 r2 : Int) (w : World) (h : word_read_uint16.f k a0 a1 a2 = some (r1, r2)) :
    Calls Try.prog 20 #[.string a0, .int .i64 a1, .int .i64 a2] w fun e w' => e = .returned (.tuple #[.int .u16 r1, .int .i64 r2]) ∧ Below w.heap.size w w' := by
  obtain ⟨⟨t, e0⟩, ht, h⟩ := Option.bind_eq_some_iff.mp h
  by_cases hs : t.size ≤ 2
  · rw [if_pos hs] at h
    obtain ⟨rfl, rfl⟩ := Prod.mk.inj (Option.some.inj h)
    clear h
    have hcv := fun (W : World) => Lib.run_convert_string_bytes (P := Try.prog) W 9 55 5 t Try.underlying9 Try.underlying55 Try.underlying5
    go_enter Try.func20, Try.ntmps20
    go_wp2_with fail
    refine (word_Text.calls k a0 a1 a2 t e0 _ ht).mono ?_
    rintro e w' ⟨rfl, ⟨nd, rfl⟩⟩
    go_wp2
    have hc : ∀ j, j < t.size → (Lib.bytesWorld (w.drewN nd) 5 t).cell? ⟨w.heap.size, j, none⟩ = some (.int .u8 ((t.data.toList.getD j 0).toNat : Int)) := by
      intro j hj
      have := Lib.bytesWorld_cell (w.drewN nd) 5 t j hj
      simpa using this
    have hB := Aside0.mk (show Below w.heap.size w (Lib.bytesWorld (w.drewN nd) 5 t) from ⟨rfl, rfl, rfl, by rw [Lib.bytesWorld_size]; simp, fun j hj => by rw [Lib.bytesWorld_at_old _ _ _ _ (by simpa using hj)]; rfl⟩)
    clear hcv
    generalize Lib.bytesWorld (w.drewN nd) 5 t = W at *
    go_loop [6, 21] (fun x i => ∃ k : Nat, k ≤ t.size ∧ i = .int .i64 k ∧ x =   .int .u16 (Aid.numN (t.data.toList.take k))) (fun _ i => t.size - (intOf i).toNat)
    case atStart => exact ⟨0, Nat.zero_le _, rfl, rfl⟩
    case round =>
      obtain ⟨k, hk, rfl, rfl⟩ := hrel
      by_cases hlt : k < t.size
      · have hck := hc k hlt
        have hb := Aid.byte_lt t.data.toList k
        have hn := Aid.numN_lt (t.data.toList.take k)
        rw [List.length_take_of_le (by simpa using hk)] at hn
        have hp := Aid.pow_le 1 (show k ≤ 1 by omega)
        have hx : Aid.numN (t.data.toList.take k) < 256 := Nat.lt_of_lt_of_le hn hp
        clear hn hp
        have hs1 : Aid.numN (t.data.toList.take (k + 1)) = 256 * Aid.numN (t.data.toList.take k) + (t.data.toList.getD k 0).toNat := by rw [Aid.take_snoc t k hlt, Aid.numN_snoc]
        have HS := Lib.hid hs1
        clear hs1 hc
        generalize Aid.numN (t.data.toList.take k) = X at *
        generalize (t.data.toList.getD k 0).toNat = C at *
        go_wp2
        go_round
        case rel =>
          refine ⟨k + 1, by omega, by go_num, ?_⟩
          rw [HS.out, Aid.join8 _ _ (by omega) (by omega) (by omega) (by omega)]; congr 1; try rw [Aid.wrap_u16]
          omega
        case measure => simp [intOf]; omega
      · have hk' : k = t.size := by omega
        subst hk'
        have ht : t.data.toList.take t.size = t.data.toList := List.take_of_length_le (by simp)
        rw [ht]
        go_wp2
        go_ret2
        exact ⟨rfl, hB.out⟩
  · rw [if_neg hs] at h; cases h

theorem word_read_uint16.mono : ∀ a0 a1 a2 k, LeO (word_read_uint16.f k a0 a1 a2) (word_read_uint16.f (k + 1) a0 a1 a2) := by
  intro a0 a1 a2 k
  unfold word_read_uint16.f
  exact LeO.bind (word_Text.mono _ _ _ _) (fun _ => LeO.refl _)

/-! ### word_Two: function 9 -/
def word_Two.f (k : Nat) (a0 : ByteArray) (a1 : Int) : Option (Int × Int) := (word_read_uint16.f k a0 a1 2).bind fun bt103 => (some (bt103.1, bt103.2))
theorem word_Two.mono : ∀ a0 a1 k, LeO (word_Two.f k a0 a1) (word_Two.f (k + 1) a0 a1) := by
  intro a0 a1 k
  unfold word_Two.f
  repeat' first
      | (with_reducible exact word_read_uint16.mono _ _ _ _)
      | (with_reducible exact LeO.refl _)
      | (with_reducible exact LeO.none _)
      | (with_reducible refine LeO.ite ?_ ?_)
      | (with_reducible refine LeO.bind ?_ (fun _ => ?_))
      | exact word_read_uint16.mono _ _ _ _
      | exact LeO.none _
      | refine LeO.ite ?_ ?_
      | refine LeO.bind ?_ (fun _ => ?_)
set_option maxHeartbeats 8000000 in
set_option maxRecDepth 100000 in
theorem word_Two.calls (k : Nat) (a0 : ByteArray) (a1 : Int) (r1 : Int) (r2 : Int) (w : World) (h : word_Two.f k a0 a1 = some (r1, r2)) :
    Calls Try.prog 9 #[.string a0, .int .i64 a1] w fun e w' => e = .returned (.tuple #[.int .u16 r1, .int .i64 r2]) ∧ Below w.heap.size w w' := by
  have HB := Aside0.mk (Below.refl w.heap.size w)
  have H : ((word_read_uint16.f k a0 a1 2).bind fun bt103 => (some (bt103.1, bt103.2))) = some (r1, r2) := h
  clear h
  replace H := Option.bind_eq_some_iff.mp H
  obtain ⟨⟨t103, t104⟩, A30, H⟩ := H
  replace H : (some (t103, t104)) = some (r1, r2) := H
  have A3 := Aside0.mk A30
  clear A30
  simp only [Option.some.injEq, Prod.mk.injEq] at H
  obtain ⟨rfl, rfl⟩ := H
  go_enter Try.func9, Try.ntmps9
  go_wp2_with (first | ((with_reducible refine gate_callee (f := 20) rfl ?_); refine goesL_ (some 8) rfl rfl Try.func20 (by kernel_rfl) rfl #[.string a0, .int .i64 a1, .int .i64 2] rfl (by (try simp only [List.map_toArray, List.map_cons, List.map_nil]); first | done | rfl | (simp only [List.length_drop, List.length_take]; rfl)) ?_; (with_reducible refine (word_read_uint16.calls k a0 a1 2 t103 t104 _ A3.out).mono ?_); rintro e w4 ⟨rfl, hb⟩; refine ⟨_, rfl, ?_⟩; have n0_ := Aside0.mk (below_step (by repeat (first | (with_reducible first | exact HB.out | apply below_alloc | apply pw_below_drewN | apply below_drew1) | exact HB.out)) hb); clear HB; have HB := n0_; clear n0_; (try clear hb); (try clear hb2); (try clear hk); (try clear hi)))
  go_ret2
  exact ⟨by first | rfl | (simp [errW_none, errW_some] <;> rfl) | (simp [*, errW_none, errW_some] <;> rfl), by repeat (first | (with_reducible first | exact HB.out | apply below_alloc | apply pw_below_drewN | apply below_drew1) | exact HB.out)⟩

/-! ### word_read_uint32: function 21 -/
-- HAND making rounds needs=stevedore/word.Text
def word_read_uint32.f (k : Nat) (a0 : ByteArray) (a1 a2 : Int) : Option (Int × Int) :=
  (word_Text.f k a0 a1 a2).bind fun p => if p.1.size ≤ 4 then some ((Aid.numN p.1.data.toList : Int), p.2) else none

set_option maxHeartbeats 2000000 in
theorem word_read_uint32.calls (k : Nat) (a0 : ByteArray) (a1 a2 : Int) (r1 r2 : Int) (w : World) (h : word_read_uint32.f k a0 a1 a2 = some (r1, r2)) :
    Calls Try.prog 21 #[.string a0, .int .i64 a1, .int .i64 a2] w fun e w' => e = .returned (.tuple #[.int .u32 r1, .int .i64 r2]) ∧ Below w.heap.size w w' := by
  obtain ⟨⟨t, e0⟩, ht, h⟩ := Option.bind_eq_some_iff.mp h
  by_cases hs : t.size ≤ 4
  · rw [if_pos hs] at h
    obtain ⟨rfl, rfl⟩ := Prod.mk.inj (Option.some.inj h)
    clear h
    have hcv := fun (W : World) => Lib.run_convert_string_bytes (P := Try.prog) W 9 55 5 t Try.underlying9 Try.underlying55 Try.underlying5
    go_enter Try.func21, Try.ntmps21
    go_wp2_with fail
    refine (word_Text.calls k a0 a1 a2 t e0 _ ht).mono ?_
    rintro e w' ⟨rfl, ⟨nd, rfl⟩⟩
    go_wp2
    have hc : ∀ j, j < t.size → (Lib.bytesWorld (w.drewN nd) 5 t).cell? ⟨w.heap.size, j, none⟩ = some (.int .u8 ((t.data.toList.getD j 0).toNat : Int)) := by
      intro j hj
      have := Lib.bytesWorld_cell (w.drewN nd) 5 t j hj
      simpa using this
    have hB := Aside0.mk (show Below w.heap.size w (Lib.bytesWorld (w.drewN nd) 5 t) from ⟨rfl, rfl, rfl, by rw [Lib.bytesWorld_size]; simp, fun j hj => by rw [Lib.bytesWorld_at_old _ _ _ _ (by simpa using hj)]; rfl⟩)
    clear hcv
    generalize Lib.bytesWorld (w.drewN nd) 5 t = W at *
    go_loop [6, 21] (fun x i => ∃ k : Nat, k ≤ t.size ∧ i = .int .i64 k ∧ x =   .int .u32 (Aid.numN (t.data.toList.take k))) (fun _ i => t.size - (intOf i).toNat)
    case atStart => exact ⟨0, Nat.zero_le _, rfl, rfl⟩
    case round =>
      obtain ⟨k, hk, rfl, rfl⟩ := hrel
      by_cases hlt : k < t.size
      · have hck := hc k hlt
        have hb := Aid.byte_lt t.data.toList k
        have hn := Aid.numN_lt (t.data.toList.take k)
        rw [List.length_take_of_le (by simpa using hk)] at hn
        have hp := Aid.pow_le 3 (show k ≤ 3 by omega)
        have hx : Aid.numN (t.data.toList.take k) < 16777216 := Nat.lt_of_lt_of_le hn hp
        clear hn hp
        have hs1 : Aid.numN (t.data.toList.take (k + 1)) = 256 * Aid.numN (t.data.toList.take k) + (t.data.toList.getD k 0).toNat := by rw [Aid.take_snoc t k hlt, Aid.numN_snoc]
        have HS := Lib.hid hs1
        clear hs1 hc
        generalize Aid.numN (t.data.toList.take k) = X at *
        generalize (t.data.toList.getD k 0).toNat = C at *
        go_wp2
        go_round
        case rel =>
          refine ⟨k + 1, by omega, by go_num, ?_⟩
          rw [HS.out, Aid.join8 _ _ (by omega) (by omega) (by omega) (by omega)]; congr 1; try rw [Aid.wrap_u16]
          omega
        case measure => simp [intOf]; omega
      · have hk' : k = t.size := by omega
        subst hk'
        have ht : t.data.toList.take t.size = t.data.toList := List.take_of_length_le (by simp)
        rw [ht]
        go_wp2
        go_ret2
        exact ⟨rfl, hB.out⟩
  · rw [if_neg hs] at h; cases h

theorem word_read_uint32.mono : ∀ a0 a1 a2 k, LeO (word_read_uint32.f k a0 a1 a2) (word_read_uint32.f (k + 1) a0 a1 a2) := by
  intro a0 a1 a2 k
  unfold word_read_uint32.f
  exact LeO.bind (word_Text.mono _ _ _ _) (fun _ => LeO.refl _)

/-! ### word_Four: function 10 -/
def word_Four.f (k : Nat) (a0 : ByteArray) (a1 : Int) : Option (Int × Int) := (word_read_uint32.f k a0 a1 4).bind fun bt105 => (some (bt105.1, bt105.2))
theorem word_Four.mono : ∀ a0 a1 k, LeO (word_Four.f k a0 a1) (word_Four.f (k + 1) a0 a1) := by
  intro a0 a1 k
  unfold word_Four.f
  repeat' first
      | (with_reducible exact word_read_uint32.mono _ _ _ _)
      | (with_reducible exact LeO.refl _)
      | (with_reducible exact LeO.none _)
      | (with_reducible refine LeO.ite ?_ ?_)
      | (with_reducible refine LeO.bind ?_ (fun _ => ?_))
      | exact word_read_uint32.mono _ _ _ _
      | exact LeO.none _
      | refine LeO.ite ?_ ?_
      | refine LeO.bind ?_ (fun _ => ?_)
set_option maxHeartbeats 8000000 in
set_option maxRecDepth 100000 in
theorem word_Four.calls (k : Nat) (a0 : ByteArray) (a1 : Int) (r1 : Int) (r2 : Int) (w : World) (h : word_Four.f k a0 a1 = some (r1, r2)) :
    Calls Try.prog 10 #[.string a0, .int .i64 a1] w fun e w' => e = .returned (.tuple #[.int .u32 r1, .int .i64 r2]) ∧ Below w.heap.size w w' := by
  have HB := Aside0.mk (Below.refl w.heap.size w)
  have H : ((word_read_uint32.f k a0 a1 4).bind fun bt105 => (some (bt105.1, bt105.2))) = some (r1, r2) := h
  clear h
  replace H := Option.bind_eq_some_iff.mp H
  obtain ⟨⟨t105, t106⟩, A30, H⟩ := H
  replace H : (some (t105, t106)) = some (r1, r2) := H
  have A3 := Aside0.mk A30
  clear A30
  simp only [Option.some.injEq, Prod.mk.injEq] at H
  obtain ⟨rfl, rfl⟩ := H
  go_enter Try.func10, Try.ntmps10
  go_wp2_with (first | ((with_reducible refine gate_callee (f := 21) rfl ?_); refine goesL_ (some 8) rfl rfl Try.func21 (by kernel_rfl) rfl #[.string a0, .int .i64 a1, .int .i64 4] rfl (by (try simp only [List.map_toArray, List.map_cons, List.map_nil]); first | done | rfl | (simp only [List.length_drop, List.length_take]; rfl)) ?_; (with_reducible refine (word_read_uint32.calls k a0 a1 4 t105 t106 _ A3.out).mono ?_); rintro e w4 ⟨rfl, hb⟩; refine ⟨_, rfl, ?_⟩; have n0_ := Aside0.mk (below_step (by repeat (first | (with_reducible first | exact HB.out | apply below_alloc | apply pw_below_drewN | apply below_drew1) | exact HB.out)) hb); clear HB; have HB := n0_; clear n0_; (try clear hb); (try clear hb2); (try clear hk); (try clear hi)))
  go_ret2
  exact ⟨by first | rfl | (simp [errW_none, errW_some] <;> rfl) | (simp [*, errW_none, errW_some] <;> rfl), by repeat (first | (with_reducible first | exact HB.out | apply below_alloc | apply pw_below_drewN | apply below_drew1) | exact HB.out)⟩

/-! ### word_read_uint64: function 22 -/
-- HAND making rounds needs=stevedore/word.Text
def word_read_uint64.f (k : Nat) (a0 : ByteArray) (a1 a2 : Int) : Option (Int × Int) :=
  (word_Text.f k a0 a1 a2).bind fun p => if p.1.size ≤ 6 then some ((Aid.numN p.1.data.toList : Int), p.2) else none

set_option maxHeartbeats 2000000 in
theorem word_read_uint64.calls (k : Nat) (a0 : ByteArray) (a1 a2 : Int) (r1 r2 : Int) (w : World) (h : word_read_uint64.f k a0 a1 a2 = some (r1, r2)) :
    Calls Try.prog 22 #[.string a0, .int .i64 a1, .int .i64 a2] w fun e w' => e = .returned (.tuple #[.int .u64 r1, .int .i64 r2]) ∧ Below w.heap.size w w' := by
  obtain ⟨⟨t, e0⟩, ht, h⟩ := Option.bind_eq_some_iff.mp h
  by_cases hs : t.size ≤ 6
  · rw [if_pos hs] at h
    obtain ⟨rfl, rfl⟩ := Prod.mk.inj (Option.some.inj h)
    clear h
    have hcv := fun (W : World) => Lib.run_convert_string_bytes (P := Try.prog) W 9 55 5 t Try.underlying9 Try.underlying55 Try.underlying5
    go_enter Try.func22, Try.ntmps22
    go_wp2_with fail
    refine (word_Text.calls k a0 a1 a2 t e0 _ ht).mono ?_
    rintro e w' ⟨rfl, ⟨nd, rfl⟩⟩
    go_wp2
    have hc : ∀ j, j < t.size → (Lib.bytesWorld (w.drewN nd) 5 t).cell? ⟨w.heap.size, j, none⟩ = some (.int .u8 ((t.data.toList.getD j 0).toNat : Int)) := by
      intro j hj
      have := Lib.bytesWorld_cell (w.drewN nd) 5 t j hj
      simpa using this
    have hB := Aside0.mk (show Below w.heap.size w (Lib.bytesWorld (w.drewN nd) 5 t) from ⟨rfl, rfl, rfl, by rw [Lib.bytesWorld_size]; simp, fun j hj => by rw [Lib.bytesWorld_at_old _ _ _ _ (by simpa using hj)]; rfl⟩)
    clear hcv
    generalize Lib.bytesWorld (w.drewN nd) 5 t = W at *
    go_loop [6, 21] (fun x i => ∃ k : Nat, k ≤ t.size ∧ i = .int .i64 k ∧ x = .int .u64 (Aid.numN (t.data.toList.take k))) (fun _ i => t.size - (intOf i).toNat)
    case atStart => exact ⟨0, Nat.zero_le _, rfl, rfl⟩
    case round =>
      obtain ⟨k, hk, rfl, rfl⟩ := hrel
      by_cases hlt : k < t.size
      · have hck := hc k hlt
        have hb := Aid.byte_lt t.data.toList k
        have hn := Aid.numN_lt (t.data.toList.take k)
        rw [List.length_take_of_le (by simpa using hk)] at hn
        have hp := Aid.pow_le 5 (show k ≤ 5 by omega)
        have hx : Aid.numN (t.data.toList.take k) < 1099511627776 := Nat.lt_of_lt_of_le hn hp
        clear hn hp
        have hs1 : Aid.numN (t.data.toList.take (k + 1)) = 256 * Aid.numN (t.data.toList.take k) + (t.data.toList.getD k 0).toNat := by rw [Aid.take_snoc t k hlt, Aid.numN_snoc]
        have HS := Lib.hid hs1
        clear hs1 hc
        generalize Aid.numN (t.data.toList.take k) = X at *
        generalize (t.data.toList.getD k 0).toNat = C at *
        go_wp2
        go_round
        case rel =>
          refine ⟨k + 1, by omega, by go_num, ?_⟩
          rw [HS.out, Aid.join8 _ _ (by omega) (by omega) (by omega) (by omega)]; congr 1; try rw [Aid.wrap_u16]
          omega
        case measure => simp [intOf]; omega
      · have hk' : k = t.size := by omega
        subst hk'
        have ht : t.data.toList.take t.size = t.data.toList := List.take_of_length_le (by simp)
        rw [ht]
        go_wp2
        go_ret2
        exact ⟨rfl, hB.out⟩
  · rw [if_neg hs] at h; cases h
theorem word_read_uint64.mono : ∀ a0 a1 a2 k, LeO (word_read_uint64.f k a0 a1 a2) (word_read_uint64.f (k + 1) a0 a1 a2) := by
  intro a0 a1 a2 k
  unfold word_read_uint64.f
  exact LeO.bind (word_Text.mono _ _ _ _) (fun _ => LeO.refl _)

/-! ### word_Six: function 11 -/
def word_Six.f (k : Nat) (a0 : ByteArray) (a1 : Int) : Option (Int × Int) := (word_read_uint64.f k a0 a1 6).bind fun bt107 => (some (bt107.1, bt107.2))
theorem word_Six.mono : ∀ a0 a1 k, LeO (word_Six.f k a0 a1) (word_Six.f (k + 1) a0 a1) := by
  intro a0 a1 k
  unfold word_Six.f
  repeat' first
      | (with_reducible exact word_read_uint64.mono _ _ _ _)
      | (with_reducible exact LeO.refl _)
      | (with_reducible exact LeO.none _)
      | (with_reducible refine LeO.ite ?_ ?_)
      | (with_reducible refine LeO.bind ?_ (fun _ => ?_))
      | exact word_read_uint64.mono _ _ _ _
      | exact LeO.none _
      | refine LeO.ite ?_ ?_
      | refine LeO.bind ?_ (fun _ => ?_)
set_option maxHeartbeats 8000000 in
set_option maxRecDepth 100000 in
theorem word_Six.calls (k : Nat) (a0 : ByteArray) (a1 : Int) (r1 : Int) (r2 : Int) (w : World) (h : word_Six.f k a0 a1 = some (r1, r2)) :
    Calls Try.prog 11 #[.string a0, .int .i64 a1] w fun e w' => e = .returned (.tuple #[.int .u64 r1, .int .i64 r2]) ∧ Below w.heap.size w w' := by
  have HB := Aside0.mk (Below.refl w.heap.size w)
  have H : ((word_read_uint64.f k a0 a1 6).bind fun bt107 => (some (bt107.1, bt107.2))) = some (r1, r2) := h
  clear h
  replace H := Option.bind_eq_some_iff.mp H
  obtain ⟨⟨t107, t108⟩, A30, H⟩ := H
  replace H : (some (t107, t108)) = some (r1, r2) := H
  have A3 := Aside0.mk A30
  clear A30
  simp only [Option.some.injEq, Prod.mk.injEq] at H
  obtain ⟨rfl, rfl⟩ := H
  go_enter Try.func11, Try.ntmps11
  go_wp2_with (first | ((with_reducible refine gate_callee (f := 22) rfl ?_); refine goesL_ (some 8) rfl rfl Try.func22 (by kernel_rfl) rfl #[.string a0, .int .i64 a1, .int .i64 6] rfl (by (try simp only [List.map_toArray, List.map_cons, List.map_nil]); first | done | rfl | (simp only [List.length_drop, List.length_take]; rfl)) ?_; (with_reducible refine (word_read_uint64.calls k a0 a1 6 t107 t108 _ A3.out).mono ?_); rintro e w4 ⟨rfl, hb⟩; refine ⟨_, rfl, ?_⟩; have n0_ := Aside0.mk (below_step (by repeat (first | (with_reducible first | exact HB.out | apply below_alloc | apply pw_below_drewN | apply below_drew1) | exact HB.out)) hb); clear HB; have HB := n0_; clear n0_; (try clear hb); (try clear hb2); (try clear hk); (try clear hi)))
  go_ret2
  exact ⟨by first | rfl | (simp [errW_none, errW_some] <;> rfl) | (simp [*, errW_none, errW_some] <;> rfl), by repeat (first | (with_reducible first | exact HB.out | apply below_alloc | apply pw_below_drewN | apply below_drew1) | exact HB.out)⟩

/-! ### word_Rest: function 14 -/
def word_Rest.f (k : Nat) (a0 : ByteArray) (a1 : Int) : Option (ByteArray × Int) := (word_Text.f k a0 a1 0).bind fun bt109 => (if bt109.2 = 0 then (if 0 ≤ a1 then (if a1 ≤ (a0.size : Int) then (some (a0.extract (a1 : Int).toNat a0.size, 0)) else (none)) else (none)) else (some ((⟨#[]⟩ : ByteArray), bt109.2)))
theorem word_Rest.mono : ∀ a0 a1 k, LeO (word_Rest.f k a0 a1) (word_Rest.f (k + 1) a0 a1) := by
  intro a0 a1 k
  unfold word_Rest.f
  repeat' first
      | (with_reducible exact word_Text.mono _ _ _ _)
      | (with_reducible exact LeO.refl _)
      | (with_reducible exact LeO.none _)
      | (with_reducible refine LeO.ite ?_ ?_)
      | (with_reducible refine LeO.bind ?_ (fun _ => ?_))
      | exact word_Text.mono _ _ _ _
      | exact LeO.none _
      | refine LeO.ite ?_ ?_
      | refine LeO.bind ?_ (fun _ => ?_)
set_option maxHeartbeats 8000000 in
set_option maxRecDepth 100000 in
theorem word_Rest.calls (k : Nat) (a0 : ByteArray) (a1 : Int) (r1 : ByteArray) (r2 : Int) (w : World) (h : word_Rest.f k a0 a1 = some (r1, r2)) :
    Calls Try.prog 14 #[.string a0, .int .i64 a1] w fun e w' => e = .returned (.tuple #[.string r1, .int .i64 r2]) ∧ Drawn0 w w' := by
  have H : ((word_Text.f k a0 a1 0).bind fun bt109 => (if bt109.2 = 0 then (if 0 ≤ a1 then (if a1 ≤ (a0.size : Int) then (some (a0.extract (a1 : Int).toNat a0.size, 0)) else (none)) else (none)) else (some ((⟨#[]⟩ : ByteArray), bt109.2)))) = some (r1, r2) := h
  clear h
  replace H := Option.bind_eq_some_iff.mp H
  obtain ⟨⟨t109, t110⟩, A30, H⟩ := H
  replace H : (if t110 = 0 then (if 0 ≤ a1 then (if a1 ≤ (a0.size : Int) then (some (a0.extract (a1 : Int).toNat a0.size, 0)) else (none)) else (none)) else (some ((⟨#[]⟩ : ByteArray), t110))) = some (r1, r2) := H
  have A3 := Aside0.mk A30
  clear A30
  by_cases c4 : t110 = 0
  · rw [if_pos c4] at H
    have c4b0 : (t110 == 0) = true := beq_iff_eq.mpr c4
    have c4b1 : (t110 != 0) = false := bne_eq_false_iff_eq.mpr c4
    clear c4
    by_cases c5 : 0 ≤ a1
    · rw [if_pos c5] at H
      have c5b0 := eq_true c5
      have c5b1 : decide (0 ≤ a1) = true := decide_eq_true c5
      clear c5
      by_cases c6 : a1 ≤ (a0.size : Int)
      · rw [if_pos c6] at H
        have c6b0 := eq_true c6
        have c6b1 : decide (a1 ≤ (a0.size : Int)) = true := decide_eq_true c6
        clear c6
        simp only [Option.some.injEq, Prod.mk.injEq] at H
        obtain ⟨rfl, rfl⟩ := H
        go_enter Try.func14, Try.ntmps14
        go_wp2_with (first | ((with_reducible refine gate_callee (f := 12) rfl ?_); refine goesL_ (some 11) rfl rfl Try.func12 (by kernel_rfl) rfl #[.string a0, .int .i64 a1, .int .i64 0] rfl (by (try simp only [List.map_toArray, List.map_cons, List.map_nil]); first | done | rfl | (simp only [List.length_drop, List.length_take]; rfl)) ?_; (with_reducible refine (word_Text.calls k a0 a1 0 t109 t110 _ A3.out).mono ?_); rintro e w' ⟨rfl, ⟨nd, rfl⟩⟩; refine ⟨_, rfl, ?_⟩))
        go_ret2
        exact ⟨by first | rfl | (simp; done) | (simp [*]; done), by repeat (first | exact Drawn0.refl _ | apply Drawn0.step)⟩
      · rw [if_neg c6] at H
        exact absurd H (by simp)
    · rw [if_neg c5] at H
      exact absurd H (by simp)
  · rw [if_neg c4] at H
    have c4b0 : (t110 == 0) = false := beq_eq_false_iff_ne.mpr c4
    have c4b1 : (t110 != 0) = true := bne_iff_ne.mpr c4
    simp only [Option.some.injEq, Prod.mk.injEq] at H
    obtain ⟨rfl, rfl⟩ := H
    go_enter Try.func14, Try.ntmps14
    go_wp2_with (first | ((with_reducible refine gate_callee (f := 12) rfl ?_); refine goesL_ (some 11) rfl rfl Try.func12 (by kernel_rfl) rfl #[.string a0, .int .i64 a1, .int .i64 0] rfl (by (try simp only [List.map_toArray, List.map_cons, List.map_nil]); first | done | rfl | (simp only [List.length_drop, List.length_take]; rfl)) ?_; (with_reducible refine (word_Text.calls k a0 a1 0 t109 t110 _ A3.out).mono ?_); rintro e w' ⟨rfl, ⟨nd, rfl⟩⟩; refine ⟨_, rfl, ?_⟩))
    go_ret2
    exact ⟨by first | rfl | (simp; done) | (simp [*]; done), by repeat (first | exact Drawn0.refl _ | apply Drawn0.step)⟩

/-! ### word_Of: function 16 -/
-- HAND making
set_option maxHeartbeats 2000000 in
theorem word_Of.c0 (a0 : Int) (w : World) (h0 : 0 ≤ a0 ∧ a0 < 18446744073709551616) :
    Calls Try.prog 16 #[.int .u64 a0, .int .i64 0] w fun e w' => e = .returned (.string (strOfNums [])) ∧ Below w.heap.size w w' := by
  go_enter Try.func16, Try.ntmps16
  go_wp2
  refine wp_loop_rounds 9 ?_
  iterate 8
    rw [rounds_succ]
    go_wp2
  rw [rounds_succ]
  go_wp2
  rw [run_convert_bytes_arg _ 55 5 Try.underlying55 Try.underlying5 _ 0 0 _ [] rfl (by intro i hi; exact absurd hi (by omega)) 9 Try.underlying9]
  go_wp2
  go_ret
  exact ⟨rfl, below_alloc (Below.refl _ _) _⟩
set_option maxHeartbeats 2000000 in
theorem word_Of.cn (a0 a1 : Int) (w : World) (h0 : 0 ≤ a0 ∧ a0 < 18446744073709551616) (h1 : a1 < 0) :
    Calls Try.prog 16 #[.int .u64 a0, .int .i64 a1] w fun e w' => e = .returned (.string (strOfNums [])) ∧ Below w.heap.size w w' := by
  go_enter Try.func16, Try.ntmps16
  go_wp2
  refine wp_loop_rounds 9 ?_
  iterate 8
    rw [rounds_succ]
    go_wp2
  rw [rounds_succ]
  go_wp2
  rw [run_convert_bytes_arg _ 55 5 Try.underlying55 Try.underlying5 _ 0 0 _ [] rfl (by intro i hi; exact absurd hi (by omega)) 9 Try.underlying9]
  go_wp2
  go_ret
  exact ⟨rfl, below_alloc (Below.refl _ _) _⟩
set_option maxHeartbeats 2000000 in
theorem word_Of.c1 (a0 : Int) (w : World) (h0 : 0 ≤ a0 ∧ a0 < 18446744073709551616) :
    Calls Try.prog 16 #[.int .u64 a0, .int .i64 1] w fun e w' => e = .returned (.string (strOfNums [a0 % 256])) ∧ Below w.heap.size w w' := by
  go_enter Try.func16, Try.ntmps16
  go_wp2
  refine wp_loop_rounds 9 ?_
  iterate 8
    rw [rounds_succ]
    go_wp2
  rw [rounds_succ]
  go_wp2
  have hcell : ∀ i, i < 1 → (w.alloc (.cells #[Value.int .u8 (a0 / 72057594037927936), Value.int .u8 (a0 / 281474976710656 % 256), Value.int .u8 (a0 / 1099511627776 % 256), Value.int .u8 (a0 / 4294967296 % 256), Value.int .u8 (a0 / 16777216 % 256), Value.int .u8 (a0 / 65536 % 256), Value.int .u8 (a0 / 256 % 256), Value.int .u8 (a0 % 256)] 54)).cell? ⟨w.heap.size, 7 + i, none⟩ = some (.int .u8 ([a0 % 256].getD i 0)) := by
    intro i hi
    refine (Aid.new_cells w (Aid.be8 a0) 54 (7 + i) (by simp [Aid.be8]; omega)).trans ?_
    obtain rfl : i = 0 := by omega
    all_goals rfl
  rw [run_convert_bytes_arg _ 55 5 Try.underlying55 Try.underlying5 w.heap.size 7 1 _ [a0 % 256] rfl hcell 9 Try.underlying9]
  go_wp2
  go_ret
  exact ⟨rfl, below_alloc (Below.refl _ _) _⟩
set_option maxHeartbeats 2000000 in
theorem word_Of.c2 (a0 : Int) (w : World) (h0 : 0 ≤ a0 ∧ a0 < 18446744073709551616) :
    Calls Try.prog 16 #[.int .u64 a0, .int .i64 2] w fun e w' => e = .returned (.string (strOfNums [a0 / 256 % 256, a0 % 256])) ∧ Below w.heap.size w w' := by
  go_enter Try.func16, Try.ntmps16
  go_wp2
  refine wp_loop_rounds 9 ?_
  iterate 8
    rw [rounds_succ]
    go_wp2
  rw [rounds_succ]
  go_wp2
  have hcell : ∀ i, i < 2 → (w.alloc (.cells #[Value.int .u8 (a0 / 72057594037927936), Value.int .u8 (a0 / 281474976710656 % 256), Value.int .u8 (a0 / 1099511627776 % 256), Value.int .u8 (a0 / 4294967296 % 256), Value.int .u8 (a0 / 16777216 % 256), Value.int .u8 (a0 / 65536 % 256), Value.int .u8 (a0 / 256 % 256), Value.int .u8 (a0 % 256)] 54)).cell? ⟨w.heap.size, 6 + i, none⟩ = some (.int .u8 ([a0 / 256 % 256, a0 % 256].getD i 0)) := by
    intro i hi
    refine (Aid.new_cells w (Aid.be8 a0) 54 (6 + i) (by simp [Aid.be8]; omega)).trans ?_
    obtain rfl | rfl : i = 0 ∨ i = 1 := by omega
    all_goals rfl
  rw [run_convert_bytes_arg _ 55 5 Try.underlying55 Try.underlying5 w.heap.size 6 2 _ [a0 / 256 % 256, a0 % 256] rfl hcell 9 Try.underlying9]
  go_wp2
  go_ret
  exact ⟨rfl, below_alloc (Below.refl _ _) _⟩
set_option maxHeartbeats 2000000 in
theorem word_Of.c3 (a0 : Int) (w : World) (h0 : 0 ≤ a0 ∧ a0 < 18446744073709551616) :
    Calls Try.prog 16 #[.int .u64 a0, .int .i64 3] w fun e w' => e = .returned (.string (strOfNums [a0 / 65536 % 256, a0 / 256 % 256, a0 % 256])) ∧ Below w.heap.size w w' := by
  go_enter Try.func16, Try.ntmps16
  go_wp2
  refine wp_loop_rounds 9 ?_
  iterate 8
    rw [rounds_succ]
    go_wp2
  rw [rounds_succ]
  go_wp2
  have hcell : ∀ i, i < 3 → (w.alloc (.cells #[Value.int .u8 (a0 / 72057594037927936), Value.int .u8 (a0 / 281474976710656 % 256), Value.int .u8 (a0 / 1099511627776 % 256), Value.int .u8 (a0 / 4294967296 % 256), Value.int .u8 (a0 / 16777216 % 256), Value.int .u8 (a0 / 65536 % 256), Value.int .u8 (a0 / 256 % 256), Value.int .u8 (a0 % 256)] 54)).cell? ⟨w.heap.size, 5 + i, none⟩ = some (.int .u8 ([a0 / 65536 % 256, a0 / 256 % 256, a0 % 256].getD i 0)) := by
    intro i hi
    refine (Aid.new_cells w (Aid.be8 a0) 54 (5 + i) (by simp [Aid.be8]; omega)).trans ?_
    obtain rfl | rfl | rfl : i = 0 ∨ i = 1 ∨ i = 2 := by omega
    all_goals rfl
  rw [run_convert_bytes_arg _ 55 5 Try.underlying55 Try.underlying5 w.heap.size 5 3 _ [a0 / 65536 % 256, a0 / 256 % 256, a0 % 256] rfl hcell 9 Try.underlying9]
  go_wp2
  go_ret
  exact ⟨rfl, below_alloc (Below.refl _ _) _⟩
set_option maxHeartbeats 2000000 in
theorem word_Of.c4 (a0 : Int) (w : World) (h0 : 0 ≤ a0 ∧ a0 < 18446744073709551616) :
    Calls Try.prog 16 #[.int .u64 a0, .int .i64 4] w fun e w' => e = .returned (.string (strOfNums [a0 / 16777216 % 256, a0 / 65536 % 256, a0 / 256 % 256, a0 % 256])) ∧ Below w.heap.size w w' := by
  go_enter Try.func16, Try.ntmps16
  go_wp2
  refine wp_loop_rounds 9 ?_
  iterate 8
    rw [rounds_succ]
    go_wp2
  rw [rounds_succ]
  go_wp2
  have hcell : ∀ i, i < 4 → (w.alloc (.cells #[Value.int .u8 (a0 / 72057594037927936), Value.int .u8 (a0 / 281474976710656 % 256), Value.int .u8 (a0 / 1099511627776 % 256), Value.int .u8 (a0 / 4294967296 % 256), Value.int .u8 (a0 / 16777216 % 256), Value.int .u8 (a0 / 65536 % 256), Value.int .u8 (a0 / 256 % 256), Value.int .u8 (a0 % 256)] 54)).cell? ⟨w.heap.size, 4 + i, none⟩ = some (.int .u8 ([a0 / 16777216 % 256, a0 / 65536 % 256, a0 / 256 % 256, a0 % 256].getD i 0)) := by
    intro i hi
    refine (Aid.new_cells w (Aid.be8 a0) 54 (4 + i) (by simp [Aid.be8]; omega)).trans ?_
    obtain rfl | rfl | rfl | rfl : i = 0 ∨ i = 1 ∨ i = 2 ∨ i = 3 := by omega
    all_goals rfl
  rw [run_convert_bytes_arg _ 55 5 Try.underlying55 Try.underlying5 w.heap.size 4 4 _ [a0 / 16777216 % 256, a0 / 65536 % 256, a0 / 256 % 256, a0 % 256] rfl hcell 9 Try.underlying9]
  go_wp2
  go_ret
  exact ⟨rfl, below_alloc (Below.refl _ _) _⟩
set_option maxHeartbeats 2000000 in
theorem word_Of.c5 (a0 : Int) (w : World) (h0 : 0 ≤ a0 ∧ a0 < 18446744073709551616) :
    Calls Try.prog 16 #[.int .u64 a0, .int .i64 5] w fun e w' => e = .returned (.string (strOfNums [a0 / 4294967296 % 256, a0 / 16777216 % 256, a0 / 65536 % 256, a0 / 256 % 256, a0 % 256])) ∧ Below w.heap.size w w' := by
  go_enter Try.func16, Try.ntmps16
  go_wp2
  refine wp_loop_rounds 9 ?_
  iterate 8
    rw [rounds_succ]
    go_wp2
  rw [rounds_succ]
  go_wp2
  have hcell : ∀ i, i < 5 → (w.alloc (.cells #[Value.int .u8 (a0 / 72057594037927936), Value.int .u8 (a0 / 281474976710656 % 256), Value.int .u8 (a0 / 1099511627776 % 256), Value.int .u8 (a0 / 4294967296 % 256), Value.int .u8 (a0 / 16777216 % 256), Value.int .u8 (a0 / 65536 % 256), Value.int .u8 (a0 / 256 % 256), Value.int .u8 (a0 % 256)] 54)).cell? ⟨w.heap.size, 3 + i, none⟩ = some (.int .u8 ([a0 / 4294967296 % 256, a0 / 16777216 % 256, a0 / 65536 % 256, a0 / 256 % 256, a0 % 256].getD i 0)) := by
    intro i hi
    refine (Aid.new_cells w (Aid.be8 a0) 54 (3 + i) (by simp [Aid.be8]; omega)).trans ?_
    obtain rfl | rfl | rfl | rfl | rfl : i = 0 ∨ i = 1 ∨ i = 2 ∨ i = 3 ∨ i = 4 := by omega
    all_goals rfl
  rw [run_convert_bytes_arg _ 55 5 Try.underlying55 Try.underlying5 w.heap.size 3 5 _ [a0 / 4294967296 % 256, a0 / 16777216 % 256, a0 / 65536 % 256, a0 / 256 % 256, a0 % 256] rfl hcell 9 Try.underlying9]
  go_wp2
  go_ret
  exact ⟨rfl, below_alloc (Below.refl _ _) _⟩
set_option maxHeartbeats 2000000 in
theorem word_Of.c6 (a0 : Int) (w : World) (h0 : 0 ≤ a0 ∧ a0 < 18446744073709551616) :
    Calls Try.prog 16 #[.int .u64 a0, .int .i64 6] w fun e w' => e = .returned (.string (strOfNums [a0 / 1099511627776 % 256, a0 / 4294967296 % 256, a0 / 16777216 % 256, a0 / 65536 % 256, a0 / 256 % 256, a0 % 256])) ∧ Below w.heap.size w w' := by
  go_enter Try.func16, Try.ntmps16
  go_wp2
  refine wp_loop_rounds 9 ?_
  iterate 8
    rw [rounds_succ]
    go_wp2
  rw [rounds_succ]
  go_wp2
  have hcell : ∀ i, i < 6 → (w.alloc (.cells #[Value.int .u8 (a0 / 72057594037927936), Value.int .u8 (a0 / 281474976710656 % 256), Value.int .u8 (a0 / 1099511627776 % 256), Value.int .u8 (a0 / 4294967296 % 256), Value.int .u8 (a0 / 16777216 % 256), Value.int .u8 (a0 / 65536 % 256), Value.int .u8 (a0 / 256 % 256), Value.int .u8 (a0 % 256)] 54)).cell? ⟨w.heap.size, 2 + i, none⟩ = some (.int .u8 ([a0 / 1099511627776 % 256, a0 / 4294967296 % 256, a0 / 16777216 % 256, a0 / 65536 % 256, a0 / 256 % 256, a0 % 256].getD i 0)) := by
    intro i hi
    refine (Aid.new_cells w (Aid.be8 a0) 54 (2 + i) (by simp [Aid.be8]; omega)).trans ?_
    obtain rfl | rfl | rfl | rfl | rfl | rfl : i = 0 ∨ i = 1 ∨ i = 2 ∨ i = 3 ∨ i = 4 ∨ i = 5 := by omega
    all_goals rfl
  rw [run_convert_bytes_arg _ 55 5 Try.underlying55 Try.underlying5 w.heap.size 2 6 _ [a0 / 1099511627776 % 256, a0 / 4294967296 % 256, a0 / 16777216 % 256, a0 / 65536 % 256, a0 / 256 % 256, a0 % 256] rfl hcell 9 Try.underlying9]
  go_wp2
  go_ret
  exact ⟨rfl, below_alloc (Below.refl _ _) _⟩
set_option maxHeartbeats 2000000 in
theorem word_Of.c7 (a0 : Int) (w : World) (h0 : 0 ≤ a0 ∧ a0 < 18446744073709551616) :
    Calls Try.prog 16 #[.int .u64 a0, .int .i64 7] w fun e w' => e = .returned (.string (strOfNums [a0 / 281474976710656 % 256, a0 / 1099511627776 % 256, a0 / 4294967296 % 256, a0 / 16777216 % 256, a0 / 65536 % 256, a0 / 256 % 256, a0 % 256])) ∧ Below w.heap.size w w' := by
  go_enter Try.func16, Try.ntmps16
  go_wp2
  refine wp_loop_rounds 9 ?_
  iterate 8
    rw [rounds_succ]
    go_wp2
  rw [rounds_succ]
  go_wp2
  have hcell : ∀ i, i < 7 → (w.alloc (.cells #[Value.int .u8 (a0 / 72057594037927936), Value.int .u8 (a0 / 281474976710656 % 256), Value.int .u8 (a0 / 1099511627776 % 256), Value.int .u8 (a0 / 4294967296 % 256), Value.int .u8 (a0 / 16777216 % 256), Value.int .u8 (a0 / 65536 % 256), Value.int .u8 (a0 / 256 % 256), Value.int .u8 (a0 % 256)] 54)).cell? ⟨w.heap.size, 1 + i, none⟩ = some (.int .u8 ([a0 / 281474976710656 % 256, a0 / 1099511627776 % 256, a0 / 4294967296 % 256, a0 / 16777216 % 256, a0 / 65536 % 256, a0 / 256 % 256, a0 % 256].getD i 0)) := by
    intro i hi
    refine (Aid.new_cells w (Aid.be8 a0) 54 (1 + i) (by simp [Aid.be8]; omega)).trans ?_
    obtain rfl | rfl | rfl | rfl | rfl | rfl | rfl : i = 0 ∨ i = 1 ∨ i = 2 ∨ i = 3 ∨ i = 4 ∨ i = 5 ∨ i = 6 := by omega
    all_goals rfl
  rw [run_convert_bytes_arg _ 55 5 Try.underlying55 Try.underlying5 w.heap.size 1 7 _ [a0 / 281474976710656 % 256, a0 / 1099511627776 % 256, a0 / 4294967296 % 256, a0 / 16777216 % 256, a0 / 65536 % 256, a0 / 256 % 256, a0 % 256] rfl hcell 9 Try.underlying9]
  go_wp2
  go_ret
  exact ⟨rfl, below_alloc (Below.refl _ _) _⟩
set_option maxHeartbeats 2000000 in
theorem word_Of.c8 (a0 : Int) (w : World) (h0 : 0 ≤ a0 ∧ a0 < 18446744073709551616) :
    Calls Try.prog 16 #[.int .u64 a0, .int .i64 8] w fun e w' => e = .returned (.string (strOfNums [a0 / 72057594037927936, a0 / 281474976710656 % 256, a0 / 1099511627776 % 256, a0 / 4294967296 % 256, a0 / 16777216 % 256, a0 / 65536 % 256, a0 / 256 % 256, a0 % 256])) ∧ Below w.heap.size w w' := by
  go_enter Try.func16, Try.ntmps16
  go_wp2
  refine wp_loop_rounds 9 ?_
  iterate 8
    rw [rounds_succ]
    go_wp2
  rw [rounds_succ]
  go_wp2
  have hcell : ∀ i, i < 8 → (w.alloc (.cells #[Value.int .u8 (a0 / 72057594037927936), Value.int .u8 (a0 / 281474976710656 % 256), Value.int .u8 (a0 / 1099511627776 % 256), Value.int .u8 (a0 / 4294967296 % 256), Value.int .u8 (a0 / 16777216 % 256), Value.int .u8 (a0 / 65536 % 256), Value.int .u8 (a0 / 256 % 256), Value.int .u8 (a0 % 256)] 54)).cell? ⟨w.heap.size, 0 + i, none⟩ = some (.int .u8 ([a0 / 72057594037927936, a0 / 281474976710656 % 256, a0 / 1099511627776 % 256, a0 / 4294967296 % 256, a0 / 16777216 % 256, a0 / 65536 % 256, a0 / 256 % 256, a0 % 256].getD i 0)) := by
    intro i hi
    refine (Aid.new_cells w (Aid.be8 a0) 54 (0 + i) (by simp [Aid.be8]; omega)).trans ?_
    obtain rfl | rfl | rfl | rfl | rfl | rfl | rfl | rfl : i = 0 ∨ i = 1 ∨ i = 2 ∨ i = 3 ∨ i = 4 ∨ i = 5 ∨ i = 6 ∨ i = 7 := by omega
    all_goals rfl
  rw [run_convert_bytes_arg _ 55 5 Try.underlying55 Try.underlying5 w.heap.size 0 8 _ [a0 / 72057594037927936, a0 / 281474976710656 % 256, a0 / 1099511627776 % 256, a0 / 4294967296 % 256, a0 / 16777216 % 256, a0 / 65536 % 256, a0 / 256 % 256, a0 % 256] rfl hcell 9 Try.underlying9]
  go_wp2
  go_ret
  exact ⟨rfl, below_alloc (Below.refl _ _) _⟩
set_option maxHeartbeats 2000000 in
theorem word_Of.c9 (a0 a1 : Int) (w : World) (h0 : 0 ≤ a0 ∧ a0 < 18446744073709551616) (h1 : 8 < a1) :
    Calls Try.prog 16 #[.int .u64 a0, .int .i64 a1] w fun e w' => e = .returned (.string (strOfNums [a0 / 72057594037927936, a0 / 281474976710656 % 256, a0 / 1099511627776 % 256, a0 / 4294967296 % 256, a0 / 16777216 % 256, a0 / 65536 % 256, a0 / 256 % 256, a0 % 256])) ∧ Below w.heap.size w w' := by
  go_enter Try.func16, Try.ntmps16
  go_wp2
  refine wp_loop_rounds 9 ?_
  iterate 8
    rw [rounds_succ]
    go_wp2
  rw [rounds_succ]
  go_wp2
  have hcell : ∀ i, i < 8 → (w.alloc (.cells #[Value.int .u8 (a0 / 72057594037927936), Value.int .u8 (a0 / 281474976710656 % 256), Value.int .u8 (a0 / 1099511627776 % 256), Value.int .u8 (a0 / 4294967296 % 256), Value.int .u8 (a0 / 16777216 % 256), Value.int .u8 (a0 / 65536 % 256), Value.int .u8 (a0 / 256 % 256), Value.int .u8 (a0 % 256)] 54)).cell? ⟨w.heap.size, 0 + i, none⟩ = some (.int .u8 ([a0 / 72057594037927936, a0 / 281474976710656 % 256, a0 / 1099511627776 % 256, a0 / 4294967296 % 256, a0 / 16777216 % 256, a0 / 65536 % 256, a0 / 256 % 256, a0 % 256].getD i 0)) := by
    intro i hi
    refine (Aid.new_cells w (Aid.be8 a0) 54 (0 + i) (by simp [Aid.be8]; omega)).trans ?_
    obtain rfl | rfl | rfl | rfl | rfl | rfl | rfl | rfl : i = 0 ∨ i = 1 ∨ i = 2 ∨ i = 3 ∨ i = 4 ∨ i = 5 ∨ i = 6 ∨ i = 7 := by omega
    all_goals rfl
  rw [run_convert_bytes_arg _ 55 5 Try.underlying55 Try.underlying5 w.heap.size 0 8 _ [a0 / 72057594037927936, a0 / 281474976710656 % 256, a0 / 1099511627776 % 256, a0 / 4294967296 % 256, a0 / 16777216 % 256, a0 / 65536 % 256, a0 / 256 % 256, a0 % 256] rfl hcell 9 Try.underlying9]
  go_wp2
  go_ret
  exact ⟨rfl, below_alloc (Below.refl _ _) _⟩
def word_Of.f (a0 a1 : Int) : Option ByteArray := if 0 ≤ a0 ∧ a0 < 18446744073709551616 then some (strOfNums ((Aid.be8 a0).drop (8 - (min (max a1 0) 8).toNat))) else none
theorem word_Of.calls (a0 a1 : Int) (r : ByteArray) (w : World) (h : word_Of.f a0 a1 = some r) :
    Calls Try.prog 16 #[.int .u64 a0, .int .i64 a1] w fun e w' => e = .returned (.string r) ∧ Below w.heap.size w w' := by
  unfold word_Of.f at h
  by_cases h0 : 0 ≤ a0 ∧ a0 < 18446744073709551616
  · rw [if_pos h0] at h
    obtain rfl := Option.some.inj h
    clear h
    by_cases c0 : a1 ≤ 0
    · have e : (min (max a1 0) 8).toNat = 0 := by omega
      rw [e]
      by_cases cz : a1 = 0
      · subst cz; exact word_Of.c0 a0 w h0
      · exact word_Of.cn a0 a1 w h0 (by omega)
    by_cases c8 : 8 ≤ a1
    · have e : (min (max a1 0) 8).toNat = 8 := by omega
      rw [e]
      by_cases cz : a1 = 8
      · subst cz; exact word_Of.c8 a0 w h0
      · exact word_Of.c9 a0 a1 w h0 (by omega)
    obtain rfl | rfl | rfl | rfl | rfl | rfl | rfl : a1 = 1 ∨ a1 = 2 ∨ a1 = 3 ∨ a1 = 4 ∨ a1 = 5 ∨ a1 = 6 ∨ a1 = 7 := by omega
    · exact word_Of.c1 a0 w h0
    · exact word_Of.c2 a0 w h0
    · exact word_Of.c3 a0 w h0
    · exact word_Of.c4 a0 w h0
    · exact word_Of.c5 a0 w h0
    · exact word_Of.c6 a0 w h0
    · exact word_Of.c7 a0 w h0
  · rw [if_neg h0] at h; cases h

end Go.Proofs.Ytpieabhpgefbnaa.PWordBack
