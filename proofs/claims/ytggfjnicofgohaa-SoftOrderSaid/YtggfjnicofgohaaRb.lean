import Derived.Test.YtggfjnicofgohaaRa
import Derived.Deep.RegionLaw
import Derived.Deep.CutRange
namespace Go.Proofs.Ytggfjnicofgohaa.Sf
open Go.RowKit Blk Go.Proofs.YtggfjnicofgohaaW.PrintWords
set_option linter.unusedVariables false

def Rf.put (s : Rf) (core hash id : Int) : Rf × Int :=
  if core < 0 ∨ (s.n : Int) ≤ core then (s, 2)
  else if s.most ≤ ((s.rows.getD core.toNat []).length : Int) then ({ s with lost := s.lost.set core.toNat ((s.lost.getD core.toNat 0 + 1) % 18446744073709551616) }, 6)
  else ({ s with rows := s.rows.set core.toNat (s.rows.getD core.toNat [] ++ [(id, hash)]), last := s.last.set (hash % 256).toNat (core + 1) }, 0)
set_option maxHeartbeats 1000000 in
theorem r_is {w : World} {base b r ro rk l lo lk : Nat} {rv : List Value} {O : Value} {s : Rf} (h : RAt w base b r ro rk l lo lk rv O s) (core : Int) :
    Calls Try.prog 25 #[.pointer (some ⟨b, 0, none⟩), .int .i64 core] w fun e w' => e = .returned (.bool !(may s.n core == 2)) ∧ w = w' := by
  have c1 := h.c1
  have hq := q_max h.hr
  unfold may
  clear h
  by_cases h1 : core < 0
  · rw [if_pos (Or.inl h1)]
    go_enter Try.func25, Try.ntmps25
    go_wp2
    go_ret
    exact ⟨rfl, rfl⟩
  · by_cases h2 : (s.n : Int) ≤ core
    · rw [if_pos (Or.inr h2)]
      have d1 : decide (core < (s.n : Int)) = false := decide_eq_false (by omega)
      go_enter Try.func25, Try.ntmps25
      go_wp2
      go_ret
      exact ⟨rfl, rfl⟩
    · rw [if_neg (by omega)]
      have d1 : decide (core < (s.n : Int)) = true := decide_eq_true (by omega)
      go_enter Try.func25, Try.ntmps25
      go_wp2
      go_ret
      exact ⟨rfl, rfl⟩
def RPost (base b r ro rk l lo lk : Nat) (O : Value) (s' : Rf) (w w' : World) : Prop := (∃ rv', RAt w' base b r ro rk l lo lk rv' O s') ∧ Ft base w w'

set_option maxHeartbeats 2000000 in
theorem r_put_full {w : World} {base b r ro rk l lo lk : Nat} {rv : List Value} {O : Value} {s : Rf} (h : RAt w base b r ro rk l lo lk rv O s) (i : Nat) (hi : i < s.n) (hn : s.n ≤ 8) (hash id : Int) (hf : s.most ≤ ((s.rows.getD i []).length : Int)) (h256 : (s.rows.getD i []).length ≤ 256) (hlo : 0 ≤ s.lost.getD i 0 ∧ s.lost.getD i 0 ≤ 18446744073709551615) :
    Calls Try.prog 17 #[.pointer (some ⟨b, 0, none⟩), .int .i64 i, .int .u32 hash, .int .u64 id] w fun e w' => e = .returned (.int .i64 6) ∧ RPost base b r ro rk l lo lk O { s with lost := s.lost.set i ((s.lost.getD i 0 + 1) % 18446744073709551616) } w w' := by
  have H := Lib.hid h
  have c0 := h.c0
  have c1 := h.c1
  have c2 := h.c2
  obtain ⟨cl, fl⟩ := h.lc i hi
  obtain ⟨A, c, row, hrow, _, cr, _, _⟩ := h.row i hi
  rw [getD_of hrow] at hf h256
  have HM := Lib.hid (may_0 s.n (i : Int) (by omega))
  clear h hrow
  obtain ⟨x, hx⟩ : ∃ x, s.lost.getD i 0 = x := ⟨_, rfl⟩
  rw [hx] at cl hlo ⊢
  clear hx
  have d1 : decide (s.most ≤ (row.length : Int)) = true := decide_eq_true hf
  go_enter Try.func17, Try.ntmps17
  go_wp2_with fail
  refine (r_is H.out i).mono ?_
  rintro e w' ⟨rfl, rfl⟩
  rw [HM.out]
  go_wp2
  go_quiet (fail)
  go_wp2
  go_ret
  obtain ⟨⟨cells, hcs⟩, hge⟩ := q_has H.out.hl H.out.n1
  exact ⟨rfl, ⟨rv, (H.out.move (keeps_drewN _ _ _)).lostSet i hi _⟩, Ft.set ((Ft.refl _ _).drewN _) _ _ (hcs.drewN _) hge (.inr (.inr (.inr rfl)))⟩

set_option maxHeartbeats 2000000 in
theorem r_put_ok {w : World} {base b r ro rk l lo lk : Nat} {rv : List Value} {O : Value} {s : Rf} (h : RAt w base b r ro rk l lo lk rv O s) (i : Nat) (hi : i < s.n) (hn : s.n ≤ 8) (hash id : Int) (hh : 0 ≤ hash ∧ hash ≤ 4294967295) (hf : ¬ s.most ≤ ((s.rows.getD i []).length : Int)) (h256 : (s.rows.getD i []).length ≤ 256) (hbase : base ≤ w.heap.size) :
    Calls Try.prog 17 #[.pointer (some ⟨b, 0, none⟩), .int .i64 i, .int .u32 hash, .int .u64 id] w fun e w' => e = .returned (.int .i64 0) ∧ RPost base b r ro rk l lo lk O { s with rows := s.rows.set i (s.rows.getD i [] ++ [(id, hash)]), last := s.last.set (hash % 256).toNat (i + 1) } w w' := by
  have H := Lib.hid h
  have c0 := h.c0
  have c1 := h.c1
  obtain ⟨A, c, row, hrow, hrv, cr, _, _⟩ := h.row i hi
  rw [getD_of hrow] at hf h256 ⊢
  have HM := Lib.hid (may_0 s.n (i : Int) (by omega))
  obtain ⟨j, hj⟩ := Int.eq_ofNat_of_zero_le (show 0 ≤ hash % 256 by omega)
  have hj2 : j < 256 := by omega
  rw [hj, Int.toNat_natCast]
  have HRow := Lib.hid hrow
  have HRv := Lib.hid hrv
  have d1 : decide (s.most ≤ (row.length : Int)) = false := decide_eq_false hf
  clear h hrow hrv hf
  go_enter Try.func17, Try.ntmps17
  go_wp2_with fail
  refine (r_is H.out i).mono ?_
  rintro e w' ⟨rfl, rfl⟩
  rw [HM.out]
  go_wp2
  go_quiet (fail)
  have HA := H.out.move (keeps_drewN (fun t => t = 56 ∨ t = 52 ∨ t = 32 ∨ t = 3 ∨ t = 72) w nq)
  have HF := Lib.hid ((Ft.refl base w).drewN nq)
  clear c0 c1 cr
  generalize w.drewN nq = W at *
  go_wp2
  obtain ⟨A', c', w1, hrun, r1, r2, r3, HA1, hF1⟩ := r_put_row HA i hi A c row HRow.out HRv.out (by omega) id hash (Nat.le_trans hbase HF.out.size)
  have HRUN := Lib.hid hrun
  have HF2 := Lib.hid (HF.out.trans hF1)
  have c1 := HA.c1
  have hbl := HA.hb.lt
  obtain ⟨⟨cells, hcs⟩, hge⟩ := q_has HA.hr HA.n1
  have hrl := hcs.lt
  have cr : W.cell? ⟨r, ro + i, none⟩ = some (.slice A row.length c) := (q_cell HA.hr i _ HRv.out).1
  have HA2 := Lib.hid HA1
  have c1' := HA1.c1
  have f4 := HA1.hb.free (4 + j)
  have ck' : (w1.setCell ⟨r, ro + i, none⟩ (.slice A' (row.length + 1) c')).cell? ⟨b, 4 + j, none⟩ = some (.int .i64 (s.last.getD j 0)) := HA1.ck j hj2
  clear hrun hF1 HA HA1 HF hcs
  go_wp2
  go_cut [] from 35 to 52 (fun wc => wc = w1.setCell ⟨r, ro + i, none⟩ (.slice A' (row.length + 1) c'))
  case first =>
    go_region_law (refine step_app rfl (.tmp 46) (.tmp 50) 52 rfl (.slice A row.length c) (.slice (some ⟨W.heap.size, 0, none⟩) 1 1) (.slice A' (row.length + 1) c') _ w1 (by simp [Act.eval]) (by simp [Act.eval]) HRUN.out ?_)
    all_goals
      go_wp2_with fail
      go_meet
      case rel => rfl
  case rest =>
    subst hcut
    clear cr r1 r2 r3 c1 HRUN
    generalize w1.setCell ⟨r, ro + i, none⟩ (.slice A' (row.length + 1) c') = W2 at *
    go_wp2
    go_ret
    exact ⟨rfl, ⟨_, HA2.out.lastSet j (i + 1)⟩, Ft.set HF2.out ⟨b, 4 + j, none⟩ (.int .i64 ((i : Int) + 1)) HA2.out.hb HA2.out.gb (.inl rfl)⟩
end Go.Proofs.Ytggfjnicofgohaa.Sf
