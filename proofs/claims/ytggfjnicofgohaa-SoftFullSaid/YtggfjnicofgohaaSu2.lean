import Derived.Test.YtggfjnicofgohaaSu
namespace Go.Proofs.Ytggfjnicofgohaa.Sf
open Go.RowKit Blk Go.Proofs.YtggfjnicofgohaaW.PrintWords
attribute [local go_sem] max2_z Go.Proofs.YtggfjnicofgohaaW.PrintMore.max_two
set_option linter.unusedVariables false
set_option maxHeartbeats 4000000 in
set_option maxRecDepth 100000 in
theorem full_k (m f : Int) (w : World) (hm : 0 ≤ m ∧ m ≤ 255) (hf : 0 ≤ f ∧ f ≤ 255) :
    Calls Try.prog 6 #[.int .u8 m, .int .u8 f] w fun e w' => e = .returned (.bool true) ∧ Below w.heap.size w w' := by
  obtain ⟨n, hn⟩ : ∃ n : Nat, m.tmod 256 + 1 = n := ⟨(m.tmod 256 + 1).toNat, by rw [Int.tmod_eq_emod_of_nonneg hm.1]; omega⟩
  have hn1 : 1 ≤ n ∧ n ≤ 256 := by rw [Int.tmod_eq_emod_of_nonneg hm.1] at hn; omega
  have hq : ((n : Int).tdiv 2) = (n : Int) / 2 := Int.tdiv_eq_ediv_of_nonneg (by omega)
  obtain ⟨T, hT⟩ : ∃ T : Nat, f + (n : Int) / 2 = T := ⟨(f + (n : Int) / 2).toNat, by omega⟩
  have hT1 : T ≤ 400 := by omega
  have hz : ((T : Int) - mxz ((T : Int) - n)) = ((min T n : Nat) : Int) := by unfold mxz; split <;> omega
  have hz2 : mxz ((T : Int) - n) = ((T - n : Nat) : Int) := by unfold mxz; split <;> omega
  have HS := Lib.hid (fl_start n)
  have hmod : m.tmod 256 = (n : Int) - 1 := by omega
  go_enter Try.func6, Try.ntmps6
  go_wp2_with fail
  refine (new_o 2 n w w (Below.refl _ _) (by decide) hn1).mono ?_
  rintro e w1 ⟨rfl, HL⟩
  go_wp2
  generalize w.heap.size + 2 = b at HL ⊢
  go_loopg [8] T (fun g vi wr => ∃ (i : Nat) (s : St), i + g = T ∧ vi = .int .i64 i ∧ Hid (Fl s n 0 (min i n) ((i - n : Nat) : Int) 0 i) ∧ Own w b s wr)
  case atStart => exact ⟨0, _, by omega, rfl, by rw [show min 0 n = 0 by omega, show 0 - n = 0 by omega]; exact HS, HL⟩
  case round =>
    clear HL HS
    obtain ⟨i, s, hig, rfl, hs, HL⟩ := hrel
    by_cases hi : i < T
    · have HO := Lib.hid (hs.out.ok hn1 (by omega) (by omega) (by decide) (by omega))
      have HX := Lib.hid (fl_step hs.out hn1.2 (by omega))
      have HC := Lib.hid (hs.out.cnt)
      clear hs
      by_cases hin : i < n
      · have ht : (0 == (0:Int)) = true := rfl
        go_wp2_with fail
        refine (HL.put_ok HO.out (by decide) 0 i i (by omega) (HC.out _).1).mono ?_
        clear HL
        rintro e w2 ⟨rfl, HL⟩
        rw [HX.out.1, if_pos hin]
        go_wp2
        go_roundg (T - i - 1)
        case measure => omega
        case rel => exact ⟨i + 1, _, by omega, rfl, Lib.hid HX.out.2, HL⟩
      · go_wp2_with fail
        refine (HL.put_ok HO.out (by decide) 0 i i (by omega) (HC.out _).1).mono ?_
        clear HL
        rintro e w2 ⟨rfl, HL⟩
        rw [HX.out.1, if_neg hin]
        go_wp2
        go_roundg (T - i - 1)
        case measure => omega
        case rel => exact ⟨i + 1, _, by omega, rfl, Lib.hid HX.out.2, HL⟩
    · have e : i = T := by omega
      have HN := Lib.hid (show s.n ≤ 8 by rw [hs.out.sn]; decide)
      have HF := Lib.hid (fl_lens hs.out)
      subst e
      clear hi hig
      go_wp2_with fail
      refine (HL.len_ok 0 HN.out).mono ?_
      rintro e w2 ⟨rfl, rfl⟩
      rw [HF.out.1]
      go_wp2_with fail
      refine (HL.drops_ok 0 HN.out).mono ?_
      rintro e w2 ⟨rfl, rfl⟩
      rw [HF.out.2.1]
      go_wp2_with fail
      refine (HL.len_ok 1 HN.out).mono ?_
      rintro e w2 ⟨rfl, rfl⟩
      rw [HF.out.2.2.1]
      go_wp2_with fail
      refine (HL.drops_ok 1 HN.out).mono ?_
      rintro e w2 ⟨rfl, rfl⟩
      rw [HF.out.2.2.2]
      go_wp2
      have HS : Hid (Fl s n 0 (min i n) ((i - n : Nat) : Int) (-((0 : Nat) : Int)) i) := Lib.hid hs.out
      clear HF HN hs
      go_loopg [12, 13, 14, 15] (min i n) (fun g vi v13 v14 v15 wr => ∃ (j : Nat) (s : St), j + g = min i n ∧ vi = .int .i64 j ∧ Hid (Fl s n j (min i n) ((i - n : Nat) : Int) (-((j : Nat) : Int)) i) ∧ Own w b s wr)
      case atStart => exact ⟨0, s, by omega, rfl, HS, HL⟩
      case round =>
        clear HL HS
        obtain ⟨j, s, hjg, rfl, hs, HL⟩ := hrel
        have HO := Lib.hid (hs.out.ok hn1 (by omega) (by omega) (by omega) (by omega))
        by_cases hj : j < min i n
        · have HX := Lib.hid (fl_take hs.out hj)
          clear hs
          go_wp2_with fail
          refine (HL.take_ok HO.out (by decide) 0).mono ?_
          clear HL
          rintro e w2 ⟨rfl, HL⟩
          rw [HX.out.1]
          go_wp2
          go_roundg (min i n - j - 1)
          case measure => omega
          case rel => exact ⟨j + 1, _, by omega, rfl, Lib.hid (by rw [show -((j + 1 : Nat) : Int) = -(j : Int) - 1 by omega]; exact HX.out.2), HL⟩
        · have e : j = min i n := by omega
          subst e
          have HX := Lib.hid (fl_none hs.out)
          clear hs
          go_wp2_with fail
          refine (HL.take_ok HO.out (by decide) 0).mono ?_
          clear HL
          rintro e w2 ⟨rfl, HL⟩
          rw [HX.out] at HL ⊢
          go_wp2_with fail
          refine (works_k w w2 HL.below).mono ?_
          rintro e w3 ⟨rfl, hb⟩
          go_wp2
          go_ret
          exact ⟨rfl, hb⟩
end Go.Proofs.Ytggfjnicofgohaa.Sf
