import Derived.Test.YtggfjnicofgohaaRd
namespace Go.Proofs.Ytggfjnicofgohaa.Sf
open Go.RowKit Blk Go.Proofs.YtggfjnicofgohaaW.PrintWords
set_option linter.unusedVariables false

def Rf.target (s : Rf) (hash : Int) : Int := if 1 ≤ s.last.getD (hash % 256).toNat 0 ∧ 0 < cntOf (s.rows.getD (s.last.getD (hash % 256).toNat 0 - 1).toNat []) (hash % 256) then s.last.getD (hash % 256).toNat 0 - 1 else coreOf hash s.on
theorem cntOf_pos {row : List (Int × Int)} {i : Nat} {p : Int × Int} {k : Int} (h : row[i]? = some p) (hp : p.2 % 256 = k) : 0 < cntOf row k := by
  unfold cntOf
  have : p ∈ row.filter fun p => decide (p.2 % 256 = k) := List.mem_filter.2 ⟨List.mem_of_getElem? h, decide_eq_true hp⟩
  have := List.length_pos_of_mem this
  omega
theorem cntOf_take {row : List (Int × Int)} {i : Nat} {p : Int × Int} {k : Int} (h : row[i]? = some p) (hp : ¬ p.2 % 256 = k) (h0 : cntOf (row.take i) k = 0) : cntOf (row.take (i + 1)) k = 0 := by
  rw [List.take_add_one, h, show (some p).toList = [p] from rfl, cntOf_snoc, h0, if_neg hp]
  rfl
set_option maxHeartbeats 4000000 in
theorem r_target {w : World} {base b r ro rk l lo lk : Nat} {rv : List Value} {O : Value} {s : Rf} (h : RAt w base b r ro rk l lo lk rv O s) (hash : Int) (hh : 0 ≤ hash ∧ hash ≤ 4294967295) (hn : s.n ≤ 8) (h0 : 1 ≤ s.on.length) (h8 : s.on.length ≤ 8) (hl : 0 ≤ s.last.getD (hash % 256).toNat 0 ∧ s.last.getD (hash % 256).toNat 0 ≤ s.n)
    (h256 : ∀ row ∈ s.rows, row.length ≤ 256) (hhash : ∀ row ∈ s.rows, ∀ p ∈ row, 0 ≤ p.2 ∧ p.2 ≤ 4294967295) :
    Calls Try.prog 18 #[.pointer (some ⟨b, 0, none⟩), .int .u32 hash] w fun e w' => e = .returned (.int .i64 (s.target hash)) ∧ ∃ m, w' = w.drewN m := by
  have H := Lib.hid h
  have c1 := h.c1
  have c3 := h.c3
  obtain ⟨AO, cO, rfl, _⟩ := q_slice h.ho
  obtain ⟨g3, o3, rfl, _, hcell⟩ := q_at h.ho (by omega)
  obtain ⟨N, hN⟩ : ∃ N, N = s.on.length := ⟨_, rfl⟩
  have hp0 : 0 ≤ hash * (N : Int) := Int.mul_nonneg hh.1 (by omega)
  have hp1 : hash * (N : Int) < 4294967296 * N := Int.mul_lt_mul_of_pos_right (by omega) (by omega)
  have hpr : 0 ≤ hash * (N : Int) / 4294967296 ∧ hash * (N : Int) / 4294967296 < N := by omega
  obtain ⟨j8, hj8⟩ := Int.eq_ofNat_of_zero_le hpr.1
  have hjl : j8 < N := by omega
  have hjl2 : (j8 : Int) < (N : Int) := by omega
  have hc := (hcell j8 (.int .i64 (s.on.getD j8 0)) (by rw [List.getElem?_map, List.getD_eq_getElem?_getD, List.getElem?_eq_getElem (by omega)]; rfl)).1
  have HE := Lib.hid (show coreOf hash s.on = s.on.getD j8 0 by unfold coreOf; rw [← hN, hj8, Int.toNat_natCast])
  obtain ⟨z, hz⟩ : ∃ z, s.on.getD j8 0 = z := ⟨_, rfl⟩
  rw [hz] at hc HE
  have hp2 : hash * (N : Int) ≤ 34359738368 := by omega
  rw [← hN] at c3 h0 h8
  clear hz hN hpr hp1 hcell
  obtain ⟨j, hj⟩ := Int.eq_ofNat_of_zero_le (show 0 ≤ hash % 256 by omega)
  have hj2 : j < 256 := by omega
  have ck := h.ck j hj2
  have HT := Lib.hid (show s.target hash = if 1 ≤ s.last.getD (hash % 256).toNat 0 ∧ 0 < cntOf (s.rows.getD (s.last.getD (hash % 256).toNat 0 - 1).toNat []) (hash % 256) then s.last.getD (hash % 256).toNat 0 - 1 else coreOf hash s.on from rfl)
  rw [hj, Int.toNat_natCast] at HT hl
  obtain ⟨x, hx⟩ : ∃ x, s.last.getD j 0 = x := ⟨_, rfl⟩
  rw [hx] at ck HT hl
  rw [HE.out] at HT
  clear hx HE
  by_cases hx0 : 1 ≤ x
  · obtain ⟨i, hi⟩ := Int.eq_ofNat_of_zero_le (show 0 ≤ x - 1 by omega)
    have hin : i < s.n := by omega
    rw [hi, Int.toNat_natCast] at HT
    obtain ⟨A, c, row, hrow, hrv, cr, _, hq, hle⟩ := h.row i hin
    rw [getD_of hrow] at HT
    have hr256 := h256 row (List.mem_of_getElem? hrow)
    have hrh := hhash row (List.mem_of_getElem? hrow)
    have HRow := Lib.hid hrow
    have HRv := Lib.hid hrv
    have hi2 : (i : Int) < (s.n : Int) := by omega
    clear h hrow hrv hq h256 hhash
    have HH := Lib.hid hrh
    clear hrh
    have hxi : x = (i : Int) + 1 := by omega
    subst hxi
    clear hi
    go_enter Try.func18, Try.ntmps18
    go_wp2
    go_loopg [6] row.length (fun gk vi wr => ∃ k : Nat, k + gk = row.length ∧ vi = .int .i64 k ∧ Hid (cntOf (row.take k) j = 0) ∧ w = wr)
    case atStart => exact ⟨0, by omega, rfl, Lib.hid rfl, rfl⟩
    case round =>
      obtain ⟨k, hkg, rfl, hU, rfl⟩ := hrel
      by_cases hk : k < row.length
      · obtain ⟨p, hp⟩ : ∃ p, row[k]? = some p := ⟨_, List.getElem?_eq_getElem hk⟩
        have hph := HH.out p (List.mem_of_getElem? hp)
        obtain ⟨g, o, rfl, _, _⟩ := q_at (H.out.q i _ _ HRv.out HRow.out) (by omega)
        obtain ⟨_, q1⟩ := r_row_cells H.out i g o c row HRow.out HRv.out k p hp
        have HP := Lib.hid hp
        clear hp
        by_cases hb : p.2 % 256 = j
        · have HS := Lib.hid (show s.target hash = (i : Int) from HT.out.trans ((if_pos ⟨hx0, cntOf_pos HP.out hb⟩).trans (by omega)))
          have hbe : (p.2 % 256 == (j : Int)) = true := by rw [hb]; exact beq_self_eq_true _
          clear hb
          go_wp2
          go_ret
          exact ⟨by rw [HS.out]; rfl, 0, rfl⟩
        · have HS := Lib.hid (cntOf_take HP.out hb hU.out)
          have hbe : (p.2 % 256 == (j : Int)) = false := beq_eq_false_iff_ne.2 hb
          clear hb
          go_wp2
          go_roundg (row.length - (k + 1))
          case measure => omega
          case rel => exact ⟨k + 1, by omega, by go_num, HS, rfl⟩
      · obtain rfl : k = row.length := by omega
        have HS := Lib.hid (show s.target hash = z from HT.out.trans (if_neg (fun y => by have := hU.out; rw [List.take_length] at this; omega)))
        go_wp2
        go_quiet (fail)
        go_wp2
        go_ret
        exact ⟨by rw [HS.out]; rfl, _, rfl⟩
  · have HS := Lib.hid (show s.target hash = z from HT.out.trans (if_neg (fun y => hx0 y.1)))
    have hx1 : x = 0 := by omega
    subst hx1
    clear h h256 hhash
    go_enter Try.func18, Try.ntmps18
    go_wp2
    go_quiet (fail)
    go_wp2
    go_ret
    exact ⟨by rw [HS.out]; rfl, _, rfl⟩
end Go.Proofs.Ytggfjnicofgohaa.Sf
