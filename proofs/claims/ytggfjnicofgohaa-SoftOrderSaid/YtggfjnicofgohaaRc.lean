import Derived.Test.YtggfjnicofgohaaRb
namespace Go.Proofs.Ytggfjnicofgohaa.Sf
open Go.RowKit Blk Go.Proofs.YtggfjnicofgohaaW.PrintWords
set_option linter.unusedVariables false

def Rf.take (s : Rf) (core : Int) : Rf × Int × Int × Bool :=
  if core < 0 ∨ (s.n : Int) ≤ core then (s, 0, 0, false) else
  match s.rows.getD core.toNat [] with
  | [] => (s, 0, 0, false)
  | p :: row => ({ s with rows := s.rows.set core.toNat row }, p.1, p.2, true)
/-- The first of a backlog goes. -/
theorem r_drop_row {w : World} {base b r ro rk l lo lk : Nat} {rv : List Value} {O : Value} {s : Rf} (h : RAt w base b r ro rk l lo lk rv O s) (i : Nat) (hi : i < s.n) (A : Option Addr) (c : Nat) (p : Int × Int) (row : List (Int × Int)) (hrow : s.rows[i]? = some (p :: row)) (hv : rv[i]? = some (.slice A (row.length + 1) c)) :
    RAt (w.setCell ⟨r, ro + i, none⟩ (.slice (if c = 1 then A else A.map (·.add (1 * 2))) (row.length + 1 - 1) (c - 1))) base b r ro rk l lo lk (rv.set i (.slice (if c = 1 then A else A.map (·.add (1 * 2))) (row.length + 1 - 1) (c - 1))) O { s with rows := s.rows.set i row } := by
  have hq := h.q i _ _ hv hrow
  have hq1 := q_drop (k := 1) hq (by simp)
  refine h.rowSet i hi _ _ (Keeps.refl _ _) ?_ ?_
  · intro j v rw_ hj hvj hrj
    refine ⟨h.q j v rw_ hvj hrj, ?_⟩
    have hne := h.ne j i v _ hj hvj hv
    intro k hk e
    refine hne k hk ?_
    rw [← e]
    cases A with
    | none => split <;> rfl
    | some a => split <;> simp [Value.ownBlock, Addr.add] <;> (split <;> rfl)
  · exact hq1
theorem r_row_cells {w : World} {base b r ro rk l lo lk : Nat} {rv : List Value} {O : Value} {s : Rf} (h : RAt w base b r ro rk l lo lk rv O s) (i : Nat) (g o c : Nat) (row : List (Int × Int)) (hrow : s.rows[i]? = some row) (hv : rv[i]? = some (.slice (some ⟨g, o, none⟩) row.length c)) (k : Nat) (p : Int × Int) (hp : row[k]? = some p) :
    w.cell? ⟨g, o + k * 2, none⟩ = some (.int .u64 p.1) ∧ w.cell? ⟨g, o + k * 2 + 1, none⟩ = some (.int .u32 p.2) := by
  have hkl : k < row.length := (List.getElem?_eq_some_iff.1 hp).1
  obtain ⟨g', o', e, _, hc⟩ := q_at (h.q i _ _ hv hrow) (by omega)
  simp only [Option.some.injEq, Addr.mk.injEq, and_true] at e
  obtain ⟨rfl, rfl⟩ := e
  obtain ⟨h1, h2⟩ := flat_at row k p hp
  exact ⟨(hc _ _ h1).1, by rw [Nat.add_assoc]; exact (hc _ _ h2).1⟩
set_option maxHeartbeats 2000000 in
theorem r_take_bad {w : World} {base b r ro rk l lo lk : Nat} {rv : List Value} {O : Value} {s : Rf} (h : RAt w base b r ro rk l lo lk rv O s) (core : Int) (hc : core < 0 ∨ (s.n : Int) ≤ core) :
    Calls Try.prog 19 #[.pointer (some ⟨b, 0, none⟩), .int .i64 core] w fun e w' => e = .returned (.tuple #[.int .u64 0, .int .u32 0, .bool false]) ∧ w = w' := by
  have H := Lib.hid h
  have HM := Lib.hid (may_2 _ _ hc)
  clear h hc
  go_enter Try.func19, Try.ntmps19
  go_wp2_with fail
  refine (r_is H.out core).mono ?_
  rintro e w' ⟨rfl, rfl⟩
  rw [HM.out]
  go_wp2
  go_ret3
  exact ⟨rfl, rfl⟩
set_option maxHeartbeats 2000000 in
theorem r_take_none {w : World} {base b r ro rk l lo lk : Nat} {rv : List Value} {O : Value} {s : Rf} (h : RAt w base b r ro rk l lo lk rv O s) (i : Nat) (hi : i < s.n) (hn : s.n ≤ 8) (hrow : s.rows[i]? = some []) :
    Calls Try.prog 19 #[.pointer (some ⟨b, 0, none⟩), .int .i64 i] w fun e w' => e = .returned (.tuple #[.int .u64 0, .int .u32 0, .bool false]) ∧ w = w' := by
  have H := Lib.hid h
  have HM := Lib.hid (may_0 s.n (i : Int) (by omega))
  have c1 := h.c1
  obtain ⟨A, c, row, hrow', _, cr, _, _, _⟩ := h.row i hi
  rw [hrow] at hrow'
  injection hrow' with hrow'
  subst hrow'
  clear h hrow
  go_enter Try.func19, Try.ntmps19
  go_wp2_with fail
  refine (r_is H.out i).mono ?_
  rintro e w' ⟨rfl, rfl⟩
  rw [HM.out]
  go_wp2
  go_ret3
  exact ⟨rfl, rfl⟩

set_option maxHeartbeats 4000000 in
theorem r_take_ok {w : World} {base b r ro rk l lo lk : Nat} {rv : List Value} {O : Value} {s : Rf} (h : RAt w base b r ro rk l lo lk rv O s) (i : Nat) (hi : i < s.n) (hn : s.n ≤ 8) (p : Int × Int) (row : List (Int × Int)) (hrow : s.rows[i]? = some (p :: row)) (hl : row.length ≤ 256) :
    Calls Try.prog 19 #[.pointer (some ⟨b, 0, none⟩), .int .i64 i] w fun e w' => e = .returned (.tuple #[.int .u64 p.1, .int .u32 p.2, .bool true]) ∧ RPost base b r ro rk l lo lk O { s with rows := s.rows.set i row } w w' := by
  have H := Lib.hid h
  have HM := Lib.hid (may_0 s.n (i : Int) (by omega))
  obtain ⟨A, c, row', hrow', hrv, cr, _, hq, hle⟩ := h.row i hi
  rw [hrow] at hrow'
  injection hrow' with hrow'
  subst hrow'
  obtain ⟨g, o, eA, _, hqc⟩ := q_at hq (Nat.succ_pos _)
  subst eA
  obtain ⟨pid, ph⟩ := p
  dsimp only
  obtain ⟨q0, q1⟩ := r_row_cells h i g o c ((pid, ph) :: row) hrow hrv 0 (pid, ph) rfl
  rw [Nat.zero_mul, Nat.add_zero] at q0 q1
  obtain ⟨i0, hi0, hz0, hz1, hz2⟩ := info_parts info72
  have hcut0 := cut_from (P := Try.prog) 52 72 .i64 Try.underlying52 hi0 2 hz1 (some ⟨g, o, none⟩) (row.length + 1) c 1 (by decide) (by omega)
  obtain ⟨A', hA'⟩ : ∃ A', A' = (if c = 1 then (some ⟨g, o, none⟩ : Option Addr) else (some ⟨g, o, none⟩ : Option Addr).map (·.add (1 * 2))) := ⟨_, rfl⟩
  have hcut : ∀ W : World, (Instr.slice 52 (.slice (some ⟨g, o, none⟩) (row.length + 1) c) (some (.int .i64 1)) none none).run Try.prog W = .ok (.slice A' row.length (c - 1)) W := fun W => by rw [hcut0 W, hA']; rfl
  have hdrop : ∀ W, RAt W base b r ro rk l lo lk rv O s → RAt (W.setCell ⟨r, ro + i, none⟩ (.slice A' row.length (c - 1))) base b r ro rk l lo lk (rv.set i (.slice A' row.length (c - 1))) O { s with rows := s.rows.set i row } := fun W hW => by
    have := r_drop_row hW i hi (some ⟨g, o, none⟩) c (pid, ph) row hrow hrv
    rw [← hA', Nat.add_sub_cancel] at this
    exact this
  have HD := Lib.hid hdrop
  clear hcut0 hA' hdrop hi0 hz0 hz1 hz2 hqc hq hle
  have HRv := Lib.hid hrv
  have c1 := h.c1
  have hp1 : (((row.length + 1 : Nat) : Int) == 0) = false := beq_eq_false_iff_ne.2 (by omega)
  have hblt := h.hb.lt
  obtain ⟨⟨cells, hcs⟩, hge⟩ := q_has h.hr h.n1
  have hrlt := hcs.lt
  clear h hrow hrv hcs
  go_enter Try.func19, Try.ntmps19
  go_wp2_with fail
  refine (r_is H.out i).mono ?_
  rintro e w' ⟨rfl, rfl⟩
  rw [HM.out]
  go_wp2
  clear c1 cr q0 q1 hblt hrlt
  have HA1 := H.out.move ((Keeps.refl _ _).alloc (.cells #[.int .u64 pid, .int .u32 ph] 72))
  have HF1 := Lib.hid ((Ft.refl base w).alloc (.cells #[.int .u64 pid, .int .u32 ph] 72))
  have HX1 := Lib.hid (Has.new w [.int .u64 pid, .int .u32 ph] 72)
  obtain ⟨kx, hkx⟩ : ∃ kx, kx = w.heap.size := ⟨_, rfl⟩
  rw [← hkx]
  rw [← hkx] at HX1
  clear hkx
  generalize hW1 : w.alloc (.cells #[.int .u64 pid, .int .u32 ph] 72) = W1 at HA1 HF1 ⊢
  have HX2 := Lib.hid (show Has W1 kx [.int .u64 pid, .int .u32 ph] 72 by rw [← hW1]; exact HX1.out)
  clear HX1 hW1
  have c1 := HA1.c1
  obtain ⟨cr, fr⟩ := q_cell HA1.hr i _ HRv.out
  obtain ⟨⟨cells, hcs⟩, hge⟩ := q_has HA1.hr HA1.n1
  have HA2 := Lib.hid ((HD.out W1 HA1).move (keeps_drew _ _))
  have HF2 := Lib.hid ((Ft.set HF1.out ⟨r, ro + i, none⟩ (.slice A' row.length (c - 1)) hcs hge (.inr (.inl rfl))).drew)
  have HX3 := Lib.hid (show Has (W1.setCell ⟨r, ro + i, none⟩ (.slice A' row.length (c - 1))).drew kx [.int .u64 pid, .int .u32 ph] 72 from (HX2.out.setOther ⟨r, ro + i, none⟩ _ (has_ne HX2.out hcs (by decide))).drew)
  clear HA1 HF1 HX2 HD hcs hge
  go_region
  all_goals
    clear c1 cr fr
    generalize World.drew _ = W2 at *
    have x0 : W2.cell? ⟨kx, 0, none⟩ = some (.int .u64 pid) := HX3.out.cell rfl
    have x1 : W2.cell? ⟨kx, 1, none⟩ = some (.int .u32 ph) := HX3.out.cell rfl
    go_wp2
    go_quiet (fail)
    go_wp2
    go_ret3
    exact ⟨rfl, ⟨_, HA2.out.move (keeps_drewN _ _ _)⟩, HF2.out.drewN _⟩
end Go.Proofs.Ytggfjnicofgohaa.Sf
