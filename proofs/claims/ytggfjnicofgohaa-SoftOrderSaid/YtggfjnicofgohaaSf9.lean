import Derived.Test.YtggfjnicofgohaaSf8
namespace Go.Proofs.Ytggfjnicofgohaa.Sf
open Go.RowKit Blk Go.Proofs.YtggfjnicofgohaaW.PrintWords
set_option linter.unusedVariables false

set_option maxHeartbeats 2000000 in
theorem take_bad {w : World} {base b r l : Nat} {rv : List Value} {O : Value} {s : St} (h : At w base b r l rv O s) (core : Int) (hc : core < 0 ∨ (s.n : Int) ≤ core) :
    Calls Try.prog 12 #[.pointer (some ⟨b, 0, none⟩), .int .i64 core] w fun e w' => e = .returned (.tuple #[.int .u64 0, .int .u32 0, .bool false]) ∧ w = w' := by
  have H := Lib.hid h
  have HM := Lib.hid (may_2 _ _ hc)
  clear h hc
  go_enter Try.func12, Try.ntmps12
  go_wp2_with fail
  refine (may_c H.out core).mono ?_
  rintro e w' ⟨rfl, rfl⟩
  rw [HM.out]
  go_wp2
  go_ret3
  exact ⟨rfl, rfl⟩
set_option maxHeartbeats 2000000 in
theorem take_none {w : World} {base b r l : Nat} {rv : List Value} {O : Value} {s : St} (h : At w base b r l rv O s) (i : Nat) (hi : i < s.n) (hn : s.n ≤ 8) (hrow : s.rows[i]? = some []) :
    Calls Try.prog 12 #[.pointer (some ⟨b, 0, none⟩), .int .i64 i] w fun e w' => e = .returned (.tuple #[.int .u64 0, .int .u32 0, .bool false]) ∧ w = w' := by
  have H := Lib.hid h
  have HM := Lib.hid (may_0 s.n (i : Int) (by omega))
  have c1 := h.c1
  obtain ⟨A, c, row, hrow', _, cr, _, _⟩ := h.row i hi
  rw [hrow] at hrow'
  injection hrow' with hrow'
  subst hrow'
  clear h hrow
  go_enter Try.func12, Try.ntmps12
  go_wp2_with fail
  refine (may_c H.out i).mono ?_
  rintro e w' ⟨rfl, rfl⟩
  rw [HM.out]
  go_wp2
  go_ret3
  exact ⟨rfl, rfl⟩

set_option maxHeartbeats 4000000 in
theorem take_same {w : World} {base b r l : Nat} {rv : List Value} {O : Value} {s : St} (h : At w base b r l rv O s) (i : Nat) (hi : i < s.n) (hn : s.n ≤ 8) (p : Int × Int) (row : List (Int × Int)) (hrow : s.rows[i]? = some (p :: row)) (hl : row.length ≤ 256) (hp : 0 ≤ p.2 ∧ p.2 ≤ 4294967295)
    (hcc : -1000000 ≤ s.cnt.getD (p.2 % 256).toNat 0 ∧ s.cnt.getD (p.2 % 256).toNat 0 ≤ 1000000) (hk : s.cor.getD (p.2 % 256).toNat 0 = i) :
    Calls Try.prog 12 #[.pointer (some ⟨b, 0, none⟩), .int .i64 i] w fun e w' => e = .returned (.tuple #[.int .u64 p.1, .int .u32 p.2, .bool true]) ∧ PutPost base b r l O { s with rows := s.rows.set i row, cnt := s.cnt.set (p.2 % 256).toNat (s.cnt.getD (p.2 % 256).toNat 0 - 1) } w w' := by
  have H := Lib.hid h
  have HM := Lib.hid (may_0 s.n (i : Int) (by omega))
  obtain ⟨A, c, row', hrow', hrv, cr, hq, hle⟩ := h.row i hi
  rw [hrow] at hrow'
  injection hrow' with hrow'
  subst hrow'
  obtain ⟨g, o, eA, _, hqc⟩ := q_at hq (Nat.succ_pos _)
  subst eA
  obtain ⟨pid, ph⟩ := p
  dsimp only at hp hcc hk ⊢
  obtain ⟨q0, q1⟩ := row_cells h i g o c ((pid, ph) :: row) hrow hrv 0 (pid, ph) rfl
  rw [Nat.zero_mul, Nat.add_zero] at q0 q1
  obtain ⟨i0, hi0, hz0, hz1, hz2⟩ := info_parts info67
  have hcut0 := cut_from (P := Try.prog) 65 67 .i64 Try.underlying65 hi0 2 hz1 (some ⟨g, o, none⟩) (row.length + 1) c 1 (by decide) (by omega)
  obtain ⟨A', hA'⟩ : ∃ A', A' = (if c = 1 then (some ⟨g, o, none⟩ : Option Addr) else (some ⟨g, o, none⟩ : Option Addr).map (·.add (1 * 2))) := ⟨_, rfl⟩
  have hcut : ∀ W : World, (Instr.slice 65 (.slice (some ⟨g, o, none⟩) (row.length + 1) c) (some (.int .i64 1)) none none).run Try.prog W = .ok (.slice A' row.length (c - 1)) W := fun W => by rw [hcut0 W, hA']; rfl
  have hdrop : ∀ W, At W base b r l rv O s → At (W.setCell ⟨r, i, none⟩ (.slice A' row.length (c - 1))) base b r l (rv.set i (.slice A' row.length (c - 1))) O { s with rows := s.rows.set i row } := fun W hW => by
    have := drop_row hW i hi (some ⟨g, o, none⟩) c (pid, ph) row hrow hrv
    rw [← hA', Nat.add_sub_cancel] at this
    exact this
  have HD := Lib.hid hdrop
  clear hcut0 hA' hdrop hi0 hz0 hz1 hz2 hqc hq hle
  obtain ⟨j, hj⟩ := Int.eq_ofNat_of_zero_le (show 0 ≤ ph % 256 by omega)
  have hj2 : j < 256 := by omega
  rw [hj, Int.toNat_natCast] at hcc hk ⊢
  have HRv := Lib.hid hrv
  have c1 := h.c1
  have hp1 : (((row.length + 1 : Nat) : Int) == 0) = false := beq_eq_false_iff_ne.2 (by omega)
  obtain ⟨y, hy⟩ : ∃ y, s.cnt.getD j 0 = y := ⟨_, rfl⟩
  rw [hy] at hcc ⊢
  have HY := Lib.hid hy
  obtain ⟨z, hz⟩ : ∃ z, s.cor.getD j 0 = z := ⟨_, rfl⟩
  rw [hz] at hk
  have HZ := Lib.hid hz
  have e1 : (z == (i : Int)) = true := by rw [hk]; exact beq_self_eq_true _
  have hblt := h.hb.lt
  have hrlt := h.hr.lt
  clear h hrow hrv hy hz hk
  go_enter Try.func12, Try.ntmps12
  go_wp2_with fail
  refine (may_c H.out i).mono ?_
  rintro e w' ⟨rfl, rfl⟩
  rw [HM.out]
  go_wp2
  clear c1 cr q0 q1 hblt hrlt
  have HA1 := H.out.move ((Keeps.refl _ _).alloc (.cells #[.int .u64 pid, .int .u32 ph] 67))
  have HF1 := Lib.hid ((Fr.refl base l w).alloc (.cells #[.int .u64 pid, .int .u32 ph] 67))
  have HX1 := Lib.hid (Has.new w [.int .u64 pid, .int .u32 ph] 67)
  obtain ⟨kx, hkx⟩ : ∃ kx, kx = w.heap.size := ⟨_, rfl⟩
  rw [← hkx]
  rw [← hkx] at HX1
  clear hkx
  generalize hW1 : w.alloc (.cells #[.int .u64 pid, .int .u32 ph] 67) = W1 at HA1 HF1 ⊢
  have HX2 := Lib.hid (show Has W1 kx [.int .u64 pid, .int .u32 ph] 67 by rw [← hW1]; exact HX1.out)
  clear HX1 hW1
  have c1 := HA1.c1
  have cr : W1.cell? ⟨r, i, none⟩ = some (.slice (some ⟨g, o, none⟩) (row.length + 1) c) := HA1.hr.cell HRv.out
  have fr := HA1.hr.free i
  have HA2 := Lib.hid ((HD.out W1 HA1).move (keeps_drew _ _))
  have HF2 := Lib.hid ((Fr.set HF1.out ⟨r, i, none⟩ (.slice A' row.length (c - 1)) HA1.hr HA1.gr (.inr (.inl rfl))).drew)
  have HX3 := Lib.hid (show Has (W1.setCell ⟨r, i, none⟩ (.slice A' row.length (c - 1))).drew kx [.int .u64 pid, .int .u32 ph] 67 from (HX2.out.setOther ⟨r, i, none⟩ _ (has_ne HX2.out HA1.hr (by decide))).drew)
  clear HA1 HF1 HX2 HD
  go_region
  all_goals
    clear c1 cr fr
    generalize World.drew _ = W2 at *
    have ck : W2.cell? ⟨b, 260 + j, none⟩ = some (.int .i64 z) := by rw [← HZ.out]; exact HA2.out.ck j hj2
    have cc : W2.cell? ⟨b, 4 + j, none⟩ = some (.int .i64 y) := by rw [← HY.out]; exact HA2.out.cc j hj2
    have f4 := HA2.out.hb.free (4 + j)
    have x0 : W2.cell? ⟨kx, 0, none⟩ = some (.int .u64 pid) := HX3.out.cell rfl
    have x1 : W2.cell? ⟨kx, 1, none⟩ = some (.int .u32 ph) := HX3.out.cell rfl
    have hkb : kx ≠ b := has_ne HX3.out HA2.out.hb (by decide)
    go_wp2
    go_region
    all_goals
      go_wp2
      go_quiet (fail)
      go_wp2
      go_ret3
      exact ⟨rfl, ⟨_, (HA2.out.cntSet j hj2 (y - 1)).move ((keeps_drew _ _).drewN _)⟩, ((Fr.set HF2.out ⟨b, 4 + j, none⟩ (.int .i64 (y - 1)) HA2.out.hb HA2.out.gb (.inl rfl)).drew).drewN _⟩

set_option maxHeartbeats 4000000 in
theorem take_other {w : World} {base b r l : Nat} {rv : List Value} {O : Value} {s : St} (h : At w base b r l rv O s) (i : Nat) (hi : i < s.n) (hn : s.n ≤ 8) (p : Int × Int) (row : List (Int × Int)) (hrow : s.rows[i]? = some (p :: row)) (hl : row.length ≤ 256) (hp : 0 ≤ p.2 ∧ p.2 ≤ 4294967295)
    (hcc : -1000000 ≤ s.cnt.getD (p.2 % 256).toNat 0 ∧ s.cnt.getD (p.2 % 256).toNat 0 ≤ 1000000) (hk : s.cor.getD (p.2 % 256).toNat 0 ≠ i) :
    Calls Try.prog 12 #[.pointer (some ⟨b, 0, none⟩), .int .i64 i] w fun e w' => e = .returned (.tuple #[.int .u64 p.1, .int .u32 p.2, .bool true]) ∧ PutPost base b r l O { s with rows := s.rows.set i row } w w' := by
  have H := Lib.hid h
  have HM := Lib.hid (may_0 s.n (i : Int) (by omega))
  obtain ⟨A, c, row', hrow', hrv, cr, hq, hle⟩ := h.row i hi
  rw [hrow] at hrow'
  injection hrow' with hrow'
  subst hrow'
  obtain ⟨g, o, eA, _, hqc⟩ := q_at hq (Nat.succ_pos _)
  subst eA
  obtain ⟨pid, ph⟩ := p
  dsimp only at hp hcc hk ⊢
  obtain ⟨q0, q1⟩ := row_cells h i g o c ((pid, ph) :: row) hrow hrv 0 (pid, ph) rfl
  rw [Nat.zero_mul, Nat.add_zero] at q0 q1
  obtain ⟨i0, hi0, hz0, hz1, hz2⟩ := info_parts info67
  have hcut0 := cut_from (P := Try.prog) 65 67 .i64 Try.underlying65 hi0 2 hz1 (some ⟨g, o, none⟩) (row.length + 1) c 1 (by decide) (by omega)
  obtain ⟨A', hA'⟩ : ∃ A', A' = (if c = 1 then (some ⟨g, o, none⟩ : Option Addr) else (some ⟨g, o, none⟩ : Option Addr).map (·.add (1 * 2))) := ⟨_, rfl⟩
  have hcut : ∀ W : World, (Instr.slice 65 (.slice (some ⟨g, o, none⟩) (row.length + 1) c) (some (.int .i64 1)) none none).run Try.prog W = .ok (.slice A' row.length (c - 1)) W := fun W => by rw [hcut0 W, hA']; rfl
  have hdrop : ∀ W, At W base b r l rv O s → At (W.setCell ⟨r, i, none⟩ (.slice A' row.length (c - 1))) base b r l (rv.set i (.slice A' row.length (c - 1))) O { s with rows := s.rows.set i row } := fun W hW => by
    have := drop_row hW i hi (some ⟨g, o, none⟩) c (pid, ph) row hrow hrv
    rw [← hA', Nat.add_sub_cancel] at this
    exact this
  have HD := Lib.hid hdrop
  clear hcut0 hA' hdrop hi0 hz0 hz1 hz2 hqc hq hle
  obtain ⟨j, hj⟩ := Int.eq_ofNat_of_zero_le (show 0 ≤ ph % 256 by omega)
  have hj2 : j < 256 := by omega
  rw [hj, Int.toNat_natCast] at hcc hk
  have HRv := Lib.hid hrv
  have c1 := h.c1
  have hp1 : (((row.length + 1 : Nat) : Int) == 0) = false := beq_eq_false_iff_ne.2 (by omega)
  obtain ⟨y, hy⟩ : ∃ y, s.cnt.getD j 0 = y := ⟨_, rfl⟩
  rw [hy] at hcc
  have HY := Lib.hid hy
  obtain ⟨z, hz⟩ : ∃ z, s.cor.getD j 0 = z := ⟨_, rfl⟩
  rw [hz] at hk
  have HZ := Lib.hid hz
  have e1 : (z == (i : Int)) = false := beq_eq_false_iff_ne.2 hk
  have hblt := h.hb.lt
  have hrlt := h.hr.lt
  clear h hrow hrv hy hz hk
  go_enter Try.func12, Try.ntmps12
  go_wp2_with fail
  refine (may_c H.out i).mono ?_
  rintro e w' ⟨rfl, rfl⟩
  rw [HM.out]
  go_wp2
  clear c1 cr q0 q1 hblt hrlt
  have HA1 := H.out.move ((Keeps.refl _ _).alloc (.cells #[.int .u64 pid, .int .u32 ph] 67))
  have HF1 := Lib.hid ((Fr.refl base l w).alloc (.cells #[.int .u64 pid, .int .u32 ph] 67))
  have HX1 := Lib.hid (Has.new w [.int .u64 pid, .int .u32 ph] 67)
  obtain ⟨kx, hkx⟩ : ∃ kx, kx = w.heap.size := ⟨_, rfl⟩
  rw [← hkx]
  rw [← hkx] at HX1
  clear hkx
  generalize hW1 : w.alloc (.cells #[.int .u64 pid, .int .u32 ph] 67) = W1 at HA1 HF1 ⊢
  have HX2 := Lib.hid (show Has W1 kx [.int .u64 pid, .int .u32 ph] 67 by rw [← hW1]; exact HX1.out)
  clear HX1 hW1
  have c1 := HA1.c1
  have cr : W1.cell? ⟨r, i, none⟩ = some (.slice (some ⟨g, o, none⟩) (row.length + 1) c) := HA1.hr.cell HRv.out
  have fr := HA1.hr.free i
  have HA2 := Lib.hid ((HD.out W1 HA1).move (keeps_drew _ _))
  have HF2 := Lib.hid ((Fr.set HF1.out ⟨r, i, none⟩ (.slice A' row.length (c - 1)) HA1.hr HA1.gr (.inr (.inl rfl))).drew)
  have HX3 := Lib.hid (show Has (W1.setCell ⟨r, i, none⟩ (.slice A' row.length (c - 1))).drew kx [.int .u64 pid, .int .u32 ph] 67 from (HX2.out.setOther ⟨r, i, none⟩ _ (has_ne HX2.out HA1.hr (by decide))).drew)
  clear HA1 HF1 HX2 HD
  go_region
  all_goals
    clear c1 cr fr
    generalize World.drew _ = W2 at *
    have ck : W2.cell? ⟨b, 260 + j, none⟩ = some (.int .i64 z) := by rw [← HZ.out]; exact HA2.out.ck j hj2
    have cc : W2.cell? ⟨b, 4 + j, none⟩ = some (.int .i64 y) := by rw [← HY.out]; exact HA2.out.cc j hj2
    have f4 := HA2.out.hb.free (4 + j)
    have x0 : W2.cell? ⟨kx, 0, none⟩ = some (.int .u64 pid) := HX3.out.cell rfl
    have x1 : W2.cell? ⟨kx, 1, none⟩ = some (.int .u32 ph) := HX3.out.cell rfl
    have hkb : kx ≠ b := has_ne HX3.out HA2.out.hb (by decide)
    go_wp2
    go_quiet (fail)
    go_wp2
    go_ret3
    exact ⟨rfl, ⟨_, HA2.out.move (keeps_drewN _ _ _)⟩, HF2.out.drewN _⟩
end Go.Proofs.Ytggfjnicofgohaa.Sf
