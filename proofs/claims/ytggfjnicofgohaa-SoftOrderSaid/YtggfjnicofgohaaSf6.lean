import Derived.Test.YtggfjnicofgohaaSf5
import Derived.Deep.RegionLaw
import Derived.Deep.CutRange
namespace Go.Proofs.Ytggfjnicofgohaa.Sf
open Go.RowKit Blk Go.Proofs.YtggfjnicofgohaaW.PrintWords
set_option linter.unusedVariables false

/-- How many of a bucket there are. -/
def cntOf (row : List (Int × Int)) (k : Int) : Int := ((row.filter fun p => decide (p.2 % 256 = k)).length : Nat)
def St.put (s : St) (core hash id : Int) : St × Int :=
  if core < 0 ∨ (s.n : Int) ≤ core then (s, 2)
  else if s.most ≤ (s.rows.getD core.toNat []).length then ({ s with lost := s.lost.set core.toNat ((s.lost.getD core.toNat 0 + 1) % 18446744073709551616) }, 6)
  else if s.cor.getD (hash % 256).toNat 0 = core then ({ s with rows := s.rows.set core.toNat (s.rows.getD core.toNat [] ++ [(id, hash)]), cnt := s.cnt.set (hash % 256).toNat (s.cnt.getD (hash % 256).toNat 0 + 1) }, 0)
  else ({ s with rows := s.rows.set core.toNat (s.rows.getD core.toNat [] ++ [(id, hash)]), cnt := s.cnt.set (hash % 256).toNat (cntOf (s.rows.getD core.toNat [] ++ [(id, hash)]) (hash % 256)), cor := s.cor.set (hash % 256).toNat core }, 0)

section
variable {w : World} {base b r l : Nat} {rv : List Value} {O : Value} {s : St}
theorem At.lostSet (h : At w base b r l rv O s) (i : Nat) (v : Int) : At (w.setCell ⟨l, i, none⟩ (.int .u64 v)) base b r l rv O { s with lost := s.lost.set i v } := by
  have hks : Keeps (fun t => t ≠ 32) w (w.setCell ⟨l, i, none⟩ (.int .u64 v)) := (Keeps.refl _ _).set _ _ h.hl (by simp)
  refine ⟨hks.has (by decide) h.hb, hks.has (by decide) h.hr, ?_, hks.q (by decide) h.ho, h.rvl, h.rowl, by show (s.lost.set i v).length = _; rw [List.length_set]; exact h.lostl, fun i v row h1 h2 => hks.q (by decide) (h.q i v row h1 h2), h.ne, h.gb, h.gr, h.gl, h.cl, h.kl⟩
  have := h.hl.set i (.int .u64 v)
  rw [← List.map_set] at this
  exact this
theorem At.cntSet (h : At w base b r l rv O s) (j : Nat) (hj : j < 256) (v : Int) : At (w.setCell ⟨b, 4 + j, none⟩ (.int .i64 v)) base b r l rv O { s with cnt := s.cnt.set j v } := by
  have hks : Keeps (fun t => t ≠ 62) w (w.setCell ⟨b, 4 + j, none⟩ (.int .i64 v)) := (Keeps.refl _ _).set _ _ h.hb (by simp)
  refine ⟨?_, hks.has (by decide) h.hr, hks.has (by decide) h.hl, hks.q (by decide) h.ho, h.rvl, h.rowl, h.lostl, fun i v row h1 h2 => hks.q (by decide) (h.q i v row h1 h2), h.ne, h.gb, h.gr, h.gl, by show (s.cnt.set j v).length = _; rw [List.length_set]; exact h.cl, h.kl⟩
  have := h.hb.set (4 + j) (.int .i64 v)
  rw [sc_set_cnt h.cl j hj] at this
  exact this
theorem At.corSet (h : At w base b r l rv O s) (j : Nat) (hj : j < 256) (v : Int) : At (w.setCell ⟨b, 260 + j, none⟩ (.int .i64 v)) base b r l rv O { s with cor := s.cor.set j v } := by
  have hks : Keeps (fun t => t ≠ 62) w (w.setCell ⟨b, 260 + j, none⟩ (.int .i64 v)) := (Keeps.refl _ _).set _ _ h.hb (by simp)
  refine ⟨?_, hks.has (by decide) h.hr, hks.has (by decide) h.hl, hks.q (by decide) h.ho, h.rvl, h.rowl, h.lostl, fun i v row h1 h2 => hks.q (by decide) (h.q i v row h1 h2), h.ne, h.gb, h.gr, h.gl, h.cl, by show (s.cor.set j v).length = _; rw [List.length_set]; exact h.kl⟩
  have := h.hb.set (260 + j) (.int .i64 v)
  rw [sc_set_cor h.cl j hj] at this
  exact this
end

def PutPost (base b r l : Nat) (O : Value) (s' : St) (w w' : World) : Prop := (∃ rv', At w' base b r l rv' O s') ∧ Fr base l w w'

set_option maxHeartbeats 2000000 in
theorem put_full {w : World} {base b r l : Nat} {rv : List Value} {O : Value} {s : St} (h : At w base b r l rv O s) (i : Nat) (hi : i < s.n) (hn : s.n ≤ 8) (hash id : Int) (hf : s.most ≤ (s.rows.getD i []).length) (hm : 1 ≤ s.most) (h256 : (s.rows.getD i []).length ≤ 256) (hlo : 0 ≤ s.lost.getD i 0 ∧ s.lost.getD i 0 ≤ 18446744073709551615) :
    Calls Try.prog 14 #[.pointer (some ⟨b, 0, none⟩), .int .i64 i, .int .u32 hash, .int .u64 id] w fun e w' => e = .returned (.int .i64 6) ∧ PutPost base b r l O { s with lost := s.lost.set i ((s.lost.getD i 0 + 1) % 18446744073709551616) } w w' := by
  have H := Lib.hid h
  have c0 := h.c0
  have c1 := h.c1
  have c2 := h.c2
  have cl := h.lc i hi
  have fl := h.hl.free i
  obtain ⟨A, c, row, hrow, _, cr, _, _⟩ := h.row i hi
  rw [getD_of hrow] at hf h256
  have hmay := may_0 s.n (i : Int) (by omega)
  have HM := Lib.hid hmay
  clear hmay h hrow
  obtain ⟨x, hx⟩ : ∃ x, s.lost.getD i 0 = x := ⟨_, rfl⟩
  rw [hx] at cl hlo ⊢
  clear hx
  go_enter Try.func14, Try.ntmps14
  go_wp2_with fail
  refine (may_c H.out i).mono ?_
  rintro e w' ⟨rfl, rfl⟩
  rw [HM.out]
  go_wp2
  go_quiet (fail)
  go_wp2
  go_ret
  exact ⟨rfl, ⟨rv, (H.out.move (keeps_drewN _ _ _)).lostSet i _⟩, Fr.set ((Fr.refl _ _ _).drewN _) _ _ (H.out.hl.drewN _) H.out.gl (.inr (.inr (.inr ⟨rfl, rfl⟩)))⟩

set_option maxHeartbeats 2000000 in
theorem put_same {w : World} {base b r l : Nat} {rv : List Value} {O : Value} {s : St} (h : At w base b r l rv O s) (i : Nat) (hi : i < s.n) (hn : s.n ≤ 8) (hash id : Int) (hh : 0 ≤ hash ∧ hash ≤ 4294967295) (hf : ¬ s.most ≤ (s.rows.getD i []).length) (hm : s.most ≤ 256) (hbase : base ≤ w.heap.size)
    (hcc : 0 ≤ s.cnt.getD (hash % 256).toNat 0 ∧ s.cnt.getD (hash % 256).toNat 0 ≤ 1000000) (hk : s.cor.getD (hash % 256).toNat 0 = i) :
    Calls Try.prog 14 #[.pointer (some ⟨b, 0, none⟩), .int .i64 i, .int .u32 hash, .int .u64 id] w fun e w' => e = .returned (.int .i64 0) ∧ PutPost base b r l O { s with rows := s.rows.set i (s.rows.getD i [] ++ [(id, hash)]), cnt := s.cnt.set (hash % 256).toNat (s.cnt.getD (hash % 256).toNat 0 + 1) } w w' := by
  have H := Lib.hid h
  have c0 := h.c0
  have c1 := h.c1
  obtain ⟨A, c, row, hrow, hrv, cr, _, _⟩ := h.row i hi
  rw [getD_of hrow] at hf ⊢
  have HM := Lib.hid (may_0 s.n (i : Int) (by omega))
  obtain ⟨j, hj⟩ := Int.eq_ofNat_of_zero_le (show 0 ≤ hash % 256 by omega)
  have hj2 : j < 256 := by omega
  rw [hj, Int.toNat_natCast] at hcc hk ⊢
  have HRow := Lib.hid hrow
  have HRv := Lib.hid hrv
  obtain ⟨y, hy⟩ : ∃ y, s.cnt.getD j 0 = y := ⟨_, rfl⟩
  rw [hy] at hcc ⊢
  have HY := Lib.hid hy
  clear h hrow hrv hy
  go_enter Try.func14, Try.ntmps14
  go_wp2_with fail
  refine (may_c H.out i).mono ?_
  rintro e w' ⟨rfl, rfl⟩
  rw [HM.out]
  go_wp2
  go_quiet (fail)
  have HA := H.out.move (keeps_drewN (fun t => t = 62 ∨ t = 65 ∨ t = 32 ∨ t = 3 ∨ t = 67) w nq)
  have HF := Lib.hid ((Fr.refl base l w).drewN nq)
  clear c0 c1 cr
  generalize w.drewN nq = W at *
  go_wp2
  obtain ⟨A', c', w1, hrun, r1, r2, r3, HA1, hF1⟩ := put_row HA i hi A c row HRow.out HRv.out (by omega) id hash (Nat.le_trans hbase HF.out.size)
  have HRUN := Lib.hid hrun
  have HF2 := Lib.hid (HF.out.trans hF1)
  have c1 := HA.c1
  have hbl := HA.hb.lt
  have hrl := HA.hr.lt
  have cr : W.cell? ⟨r, i, none⟩ = some (.slice A row.length c) := HA.hr.cell HRv.out
  have HA2 := Lib.hid HA1
  have c1' := HA1.c1
  have f4 := HA1.hb.free (4 + j)
  have ck' : (w1.setCell ⟨r, i, none⟩ (.slice A' (row.length + 1) c')).cell? ⟨b, 260 + j, none⟩ = some (.int .i64 i) := by rw [← hk]; exact HA1.ck j hj2
  have cc' : (w1.setCell ⟨r, i, none⟩ (.slice A' (row.length + 1) c')).cell? ⟨b, 4 + j, none⟩ = some (.int .i64 y) := by rw [← HY.out]; exact HA1.cc j hj2
  clear hrun hF1 HA HA1 HF hk
  go_wp2
  go_cut [] from 41 to 58 (fun wc => wc = w1.setCell ⟨r, i, none⟩ (.slice A' (row.length + 1) c'))
  case first =>
    go_region_law (refine step_app rfl (.tmp 52) (.tmp 56) 65 rfl (.slice A row.length c) (.slice (some ⟨W.heap.size, 0, none⟩) 1 1) (.slice A' (row.length + 1) c') _ w1 (by simp [Act.eval]) (by simp [Act.eval]) HRUN.out ?_)
    all_goals
      go_wp2_with fail
      go_meet
      case rel => rfl
  case rest =>
    subst hcut
    clear cr r1 r2 r3 c1 HRUN
    generalize w1.setCell ⟨r, i, none⟩ (.slice A' (row.length + 1) c') = W2 at *
    go_wp2
    go_region
    all_goals
      go_wp2
      go_ret
      exact ⟨rfl, ⟨_, (HA2.out.cntSet j hj2 (y + 1)).move (keeps_drew _ _)⟩, (Fr.set HF2.out _ _ HA2.out.hb HA2.out.gb (.inl rfl)).drew⟩
end Go.Proofs.Ytggfjnicofgohaa.Sf
