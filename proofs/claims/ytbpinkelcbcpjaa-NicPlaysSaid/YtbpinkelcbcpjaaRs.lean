import Derived.Test.YtbpinkelcbcpjaaRr
namespace Go.Proofs.Ytbpinkelcbcpjaa.Ni
open Go.RowKit Blk Go.Proofs.YtbpinkelcbcpjaaW.PrintWords
set_option linter.unusedVariables false

def Rf.pick (r : Rf) (hash : Int) : Int := r.tab.getD (hash % 128).toNat 0
def Rf.come (r : Rf) (x : Sl) : Rf × Int :=
  if r.size ≤ (r.ins.getD (r.pick x.1).toNat []).length then ({ r with came := (r.came + 1) % 18446744073709551616 }, 6)
  else ({ r with ins := r.ins.set (r.pick x.1).toNat (r.ins.getD (r.pick x.1).toNat [] ++ [x]) }, 0)
def Rf.send (r : Rf) (x : Int) (t : ByteArray) : Rf × Int :=
  if 0 ≤ x ∧ x < r.ins.length then
    if r.size ≤ (r.outs.getD x.toNat []).length then ({ r with sent := (r.sent + 1) % 18446744073709551616 }, 6)
    else ({ r with outs := r.outs.set x.toNat (r.outs.getD x.toNat [] ++ [t]) }, 0)
  else (r, 2)
def TC : TypeId → Prop := fun t => t ≠ 53 ∧ t ≠ 38 ∧ t ≠ 44
def TS : TypeId → Prop := fun t => t ≠ 9 ∧ t ≠ 45 ∧ t ≠ 44
theorem Fk.drewN {base : Nat} {T : TypeId → Prop} {w w' : World} (h : Fk base T w w') (n : Nat) : Fk base T w (w'.drewN n) := ⟨⟨h.below.os, h.below.tape, h.below.output, h.below.size, h.below.block⟩, h.kept⟩
section
variable {w w' : World} {base b : Nat} {g : Rl} {r : Rf}

theorem r_appI (h : RAt w base b g r) (i : Nat) (hi : i < r.ins.length) (x : Sl) (hl : (r.ins.getD i []).length ≤ 1000) (hbase : base ≤ w.heap.size) :
    ∃ A c A' c' w1, w.cell? ⟨g.ib, g.io + i, none⟩ = some (.slice A (r.ins.getD i []).length c) ∧ (Builtin.append_ #[38, 38] 38 #[.slice A (r.ins.getD i []).length c, .slice (some ⟨w.heap.size, 0, none⟩) 1 1]).run Try.prog ((w.alloc (.cells #[.int .u32 x.1, .string x.2] 53)).drew) = .ok (.slice A' ((r.ins.getD i []).length + 1) c') w1 ∧
      w1.cell? ⟨b, 2, none⟩ = some (.slice (some ⟨g.ib, g.io, none⟩) r.ins.length g.ik) ∧ w1.cell? ⟨g.ib, g.io + i, none⟩ = some (.slice A (r.ins.getD i []).length c) ∧ w1.frozen? ⟨g.ib, g.io + i, none⟩ = false ∧
      Re (w1.setCell ⟨g.ib, g.io + i, none⟩ (.slice A' ((r.ins.getD i []).length + 1) c')) base b { r with ins := r.ins.set i (r.ins.getD i [] ++ [x]) } ∧ Fk base TC w (w1.setCell ⟨g.ib, g.io + i, none⟩ (.slice A' ((r.ins.getD i []).length + 1) c')) := by
  have hi2 : i < r.ins.length := by exact hi
  obtain ⟨A, c, hrv, hrow, hq0, _⟩ := h.ri.at' i hi2
  obtain ⟨l, hlr⟩ : ∃ l, l = r.ins.getD i [] := ⟨_, rfl⟩
  rw [← hlr] at hrv hrow hq0 hl ⊢
  obtain ⟨i0, hi0, hz0, hz1, hz2⟩ := info_parts info53
  have hn0 : Ch nob w ((w.alloc (.cells #[.int .u32 x.1, .string x.2] 53)).drew) := ((Ch.refl nob w).alloc _).drew
  have h0 := h.still hn0
  have hq : QRow ((w.alloc (.cells #[.int .u32 x.1, .string x.2] 53)).drew) base 53 2 (.slice A l.length c) l.length (flat l) := (Keeps.ofNone (T := fun _ => True) hn0).q trivial hq0
  obtain ⟨v', w1, hrun, hq', hg, hat⟩ := q_append (P := Try.prog) ((w.alloc (.cells #[.int .u32 x.1, .string x.2] 53)).drew) base 38 38 53 i0 (.agg #[.int .u32 0, .string ⟨#[]⟩]) 2 24 Try.underlying38 hi0 hz0 hz1 hz2 rfl (by decide) _ _ _ hq ⟨w.heap.size, 0, none⟩ 1 1 [.int .u32 x.1, .string x.2] rfl
    (fun j u hu => by
      rw [add_at]
      match j, hu with
      | 0, hu => simp only [List.getElem?_cons_zero, Option.some.injEq] at hu; subst hu; exact (Has.new w [.int .u32 x.1, .string x.2] 53).cell rfl
      | 1, hu => simp only [List.getElem?_cons_succ, List.getElem?_cons_zero, Option.some.injEq] at hu; subst hu; exact (Has.new w [.int .u32 x.1, .string x.2] 53).cell rfl
      | j + 2, hu => simp at hu)
    (fun u hu => by simp at hu; rcases hu with rfl | rfl <;> rfl) (by decide) (by unfold maxLen; omega) (by omega) (by show base ≤ (w.alloc _).heap.size; rw [alloc_size]; omega)
  obtain ⟨A', c', rfl, _⟩ := q_slice hq'
  have hk1 : Keeps (fun t => t ≠ 53) w w1 := (Keeps.ofNone hn0).grown hg fun k e => by
    obtain ⟨_, cc, hcc⟩ := q_typed hq k e
    exact ⟨cc, 53, hcc, by simp⟩
  have hB1 : Below base w w1 := (hn0.below base hbase fun _ _ => id).trans ⟨hg.os, hg.tape, hg.output, hg.size, fun k hk => hg.block k (by show k < (w.alloc _).heap.size; rw [alloc_size]; omega) fun e => by
    have := (q_typed hq k e.symm).1
    omega⟩
  have hI := hk1.q (by decide) h.hi
  have hcell := q_cell hI i _ hrv
  obtain ⟨⟨cs, hcs⟩, hge⟩ := q_has hI h.n1
  have hws : Rws w1 base 53 2 flat (g.rv.set i (.slice A' (l.length + 1) c')) (r.ins.set i (l ++ [x])) := by
    refine h.ri.set i hi2 _ _ (by rw [List.length_append, flat_app]; exact hq') fun j v lj hj hjv hjl => ?_
    have hqj := h0.ri.q j v lj hjv hjl
    refine ⟨q_move hqj fun k hk => hg.block k (q_lt hqj k hk) fun e => h.ri.ne j i v _ hj hjv hrv k hk e.symm, fun k hk hk' => ?_⟩
    rcases hat with e1 | ⟨b2, e1, e2⟩
    · rw [e1] at hk'
      exact h.ri.ne j i v _ hj hjv hrv k hk hk'
    · rw [e1] at hk'
      injection hk' with hk'
      have := q_lt hqj k hk
      omega
  exact ⟨A, c, A', c', w1, (q_cell h.hi i _ hrv).1, hrun, (hk1.has (by decide) h.hb).cell rfl, hcell.1, hcell.2, ⟨_, h.setIn i hi _ _ (hk1.mono fun t ht => by rcases ht with rfl | rfl | rfl | rfl | rfl | rfl <;> decide) hws⟩,
    ⟨hB1.setCell hge _, (hk1.mono fun t ht => ht.1).set _ _ hcs fun ht => ht.2.1 rfl⟩⟩

theorem r_appO (h : RAt w base b g r) (i : Nat) (hi : i < r.ins.length) (x : ByteArray) (hl : (r.outs.getD i []).length ≤ 1000) (hbase : base ≤ w.heap.size) :
    ∃ A c A' c' w1, w.cell? ⟨g.ob, g.oo + i, none⟩ = some (.slice A (r.outs.getD i []).length c) ∧ (Builtin.append_ #[45, 45] 45 #[.slice A (r.outs.getD i []).length c, .slice (some ⟨w.heap.size, 0, none⟩) 1 1]).run Try.prog ((w.alloc (.cells #[.string x] 9)).drew) = .ok (.slice A' ((r.outs.getD i []).length + 1) c') w1 ∧
      w1.cell? ⟨b, 3, none⟩ = some (.slice (some ⟨g.ob, g.oo, none⟩) r.ins.length g.ok) ∧ w1.cell? ⟨g.ob, g.oo + i, none⟩ = some (.slice A (r.outs.getD i []).length c) ∧ w1.frozen? ⟨g.ob, g.oo + i, none⟩ = false ∧
      Re (w1.setCell ⟨g.ob, g.oo + i, none⟩ (.slice A' ((r.outs.getD i []).length + 1) c')) base b { r with outs := r.outs.set i (r.outs.getD i [] ++ [x]) } ∧ Fk base TS w (w1.setCell ⟨g.ob, g.oo + i, none⟩ (.slice A' ((r.outs.getD i []).length + 1) c')) := by
  have hi2 : i < r.outs.length := by rw [h.lo]; exact hi
  obtain ⟨A, c, hrv, hrow, hq0, _⟩ := h.ro.at' i hi2
  obtain ⟨l, hlr⟩ : ∃ l, l = r.outs.getD i [] := ⟨_, rfl⟩
  rw [← hlr] at hrv hrow hq0 hl ⊢
  obtain ⟨i0, hi0, hz0, hz1, hz2⟩ := info_parts info9
  have hn0 : Ch nob w ((w.alloc (.cells #[.string x] 9)).drew) := ((Ch.refl nob w).alloc _).drew
  have h0 := h.still hn0
  have hq : QRow ((w.alloc (.cells #[.string x] 9)).drew) base 9 1 (.slice A l.length c) l.length (strs l) := (Keeps.ofNone (T := fun _ => True) hn0).q trivial hq0
  obtain ⟨v', w1, hrun, hq', hg, hat⟩ := q_append (P := Try.prog) ((w.alloc (.cells #[.string x] 9)).drew) base 45 45 9 i0 (.string ⟨#[]⟩) 1 16 Try.underlying45 hi0 hz0 hz1 hz2 rfl (by decide) _ _ _ hq ⟨w.heap.size, 0, none⟩ 1 1 [.string x] rfl
    (fun j u hu => by
      rw [add_at]
      match j, hu with
      | 0, hu => simp only [List.getElem?_cons_zero, Option.some.injEq] at hu; subst hu; exact (Has.new w [.string x] 9).cell rfl
      | j + 1, hu => simp at hu)
    (fun u hu => by simp at hu; subst hu; rfl) (by decide) (by unfold maxLen; omega) (by omega) (by show base ≤ (w.alloc _).heap.size; rw [alloc_size]; omega)
  obtain ⟨A', c', rfl, _⟩ := q_slice hq'
  have hk1 : Keeps (fun t => t ≠ 9) w w1 := (Keeps.ofNone hn0).grown hg fun k e => by
    obtain ⟨_, cc, hcc⟩ := q_typed hq k e
    exact ⟨cc, 9, hcc, by simp⟩
  have hB1 : Below base w w1 := (hn0.below base hbase fun _ _ => id).trans ⟨hg.os, hg.tape, hg.output, hg.size, fun k hk => hg.block k (by show k < (w.alloc _).heap.size; rw [alloc_size]; omega) fun e => by
    have := (q_typed hq k e.symm).1
    omega⟩
  have hI := hk1.q (by decide) h.ho
  have hcell := q_cell hI i _ hrv
  obtain ⟨⟨cs, hcs⟩, hge⟩ := q_has hI h.n1
  have hws : Rws w1 base 9 1 strs (g.ov.set i (.slice A' (l.length + 1) c')) (r.outs.set i (l ++ [x])) := by
    refine h.ro.set i hi2 _ _ (by rw [List.length_append, strs_app]; exact hq') fun j v lj hj hjv hjl => ?_
    have hqj := h0.ro.q j v lj hjv hjl
    refine ⟨q_move hqj fun k hk => hg.block k (q_lt hqj k hk) fun e => h.ro.ne j i v _ hj hjv hrv k hk e.symm, fun k hk hk' => ?_⟩
    rcases hat with e1 | ⟨b2, e1, e2⟩
    · rw [e1] at hk'
      exact h.ro.ne j i v _ hj hjv hrv k hk hk'
    · rw [e1] at hk'
      injection hk' with hk'
      have := q_lt hqj k hk
      omega
  exact ⟨A, c, A', c', w1, (q_cell h.ho i _ hrv).1, hrun, (hk1.has (by decide) h.hb).cell rfl, hcell.1, hcell.2, ⟨_, h.setOut i hi _ _ (hk1.mono fun t ht => by rcases ht with rfl | rfl | rfl | rfl | rfl | rfl <;> decide) hws⟩,
    ⟨hB1.setCell hge _, (hk1.mono fun t ht => ht.1).set _ _ hcs fun ht => ht.2.1 rfl⟩⟩

theorem RAt.tab (h : RAt w base b g r) (hash : Int) (hh : 0 ≤ hash) (htl : r.tab.length = 128) : ∃ tg tq tc, g.T = .slice (some ⟨tg, tq, none⟩) 128 tc ∧ w.cell? ⟨tg, tq + (hash % 128).toNat, none⟩ = some (.int .i64 (r.pick hash)) := by
  have ht := h.ht
  obtain ⟨A, c, e, _⟩ := q_slice ht
  rw [e] at ht
  obtain ⟨tg, tq, rfl, _, hc⟩ := q_at ht (by decide)
  refine ⟨tg, tq, c, e, (hc _ _ ?_).1⟩
  have hj : (hash % 128).toNat < r.tab.length := by omega
  unfold Rf.pick
  rw [List.getElem?_map, List.getD_eq_getElem?_getD, List.getElem?_eq_getElem hj]
  rfl
set_option maxHeartbeats 4000000 in
set_option maxRecDepth 100000 in
theorem r_came (h : RAt w base b g r) (x : Sl) (hh : 0 ≤ x.1 ∧ x.1 ≤ 4294967295) (htl : r.tab.length = 128) (hp : 0 ≤ r.pick x.1 ∧ r.pick x.1 < r.ins.length) (hl : (r.ins.getD (r.pick x.1).toNat []).length ≤ 1000) (hsz : r.size ≤ 256) (hbase : base ≤ w.heap.size) :
    Calls Try.prog 25 #[.pointer (some ⟨b, 0, none⟩), .agg #[.int .u32 x.1, .string x.2]] w fun e w' => e = .returned (.tuple #[.int .i64 (r.pick x.1), .int .i64 (r.come x).2]) ∧ Re w' base b (r.come x).1 ∧ Fk base TC w w' := by
  obtain ⟨tg, tq, tc, eT, ct0⟩ := h.tab x.1 hh.1 htl
  obtain ⟨i, hi⟩ := Int.eq_ofNat_of_zero_le hp.1
  have HPK := Lib.hid hi
  have hco : r.come x = if r.size ≤ (r.ins.getD i []).length then ({ r with came := (r.came + 1) % 18446744073709551616 }, 6) else ({ r with ins := r.ins.set i (r.ins.getD i [] ++ [x]) }, 0) := by
    unfold Rf.come
    rw [hi, Int.toNat_natCast]
  have HCO := Lib.hid hco
  rw [hi] at hp hl ct0
  rw [Int.toNat_natCast] at hl
  have hil : i < r.ins.length := by omega
  have hn8 := h.n8
  obtain ⟨j, hj⟩ := Int.eq_ofNat_of_zero_le (show 0 ≤ x.1 % 128 by omega)
  rw [hj, Int.toNat_natCast] at ct0
  have hj2 : j < 128 := by omega
  have hmod : x.1.tmod 128 = (j : Int) := by rw [Int.tmod_eq_emod_of_nonneg hh.1]; exact hj
  obtain ⟨kx, hkx⟩ : ∃ kx, kx = w.heap.size := ⟨_, rfl⟩
  obtain ⟨W1, hW1⟩ : ∃ W1, W1 = w.alloc (.cells #[.int .u32 x.1, .string x.2] 53) := ⟨_, rfl⟩
  have hn1 : Ch nob w W1 := by rw [hW1]; exact (Ch.refl _ _).alloc _
  have h1 := h.still hn1
  have hX : Has W1 kx [.int .u32 x.1, .string x.2] 53 := by rw [hW1, hkx]; exact Has.new w _ 53
  have HF := Lib.hid (Fk.ofNone (T := TC) hn1 hbase)
  have HH := Lib.hid h1
  have HX := Lib.hid hX
  have x0 : W1.cell? ⟨kx, 0, none⟩ = some (.int .u32 x.1) := hX.cell rfl
  have cT : W1.cell? ⟨b, 1, none⟩ = some (.slice (some ⟨tg, tq, none⟩) 128 tc) := by rw [← eT]; exact h1.hb.cell rfl
  have ct : W1.cell? ⟨tg, tq + j, none⟩ = some (.int .i64 (i : Int)) := by
    have hlt : tg < w.heap.size := World.block_lt_of_cell? _ _ ct0
    have := hn1.block tg hlt id
    rw [← ct0]
    unfold World.cell?
    rw [this]
  have hj3 : (j : Int) < 128 := by omega
  clear h hn1 h1 hX eT ct0 hco hi hj
  go_enter Try.func25, Try.ntmps25
  go_wp2
  rw [← hW1, ← hkx]
  clear hW1 hkx
  go_quiet (fail)
  go_wp2
  clear x0 cT ct hmod hj3 hj2
  generalize hW2 : World.drewN _ _ = W2
  have h2 : RAt W2 base b g r := by rw [← hW2]; exact HH.out.still ((Ch.refl _ _).drewN _)
  have hX2 : Has W2 kx [.int .u32 x.1, .string x.2] 53 := by rw [← hW2]; exact HX.out
  have hF2 : Hid (Fk base TC w W2) := Lib.hid (by rw [← hW2]; exact HF.out.drewN _)
  clear hW2 HH HX HF
  obtain ⟨A, c, hrv, _⟩ := h2.ri.at' i hil
  have cI := h2.c2
  have c0 : W2.cell? ⟨b, 0, none⟩ = some (.int .i64 r.size) := h2.hb.cell rfl
  have cr := (q_cell h2.hi i _ hrv).1
  have H2 := Lib.hid h2
  have HX2 := Lib.hid hX2
  have hi3 : (i : Int) < (r.ins.length : Int) := by omega
  clear h2 hX2 hrv
  by_cases hf : r.size ≤ (r.ins.getD i []).length
  · have d1 : decide ((r.size : Int) ≤ ((r.ins.getD i []).length : Int)) = true := decide_eq_true (by omega)
    have d2 : decide (r.size ≤ (r.ins.getD i []).length) = true := decide_eq_true hf
    generalize (r.ins.getD i []).length = m at *
    go_quiet (fail)
    clear cI c0 cr
    generalize hW3 : World.drewN _ _ = W3
    have h3 : RAt W3 base b g r := by rw [← hW3]; exact H2.out.still ((Ch.refl _ _).drewN _)
    have hF3 : Hid (Fk base TC w W3) := Lib.hid (by rw [← hW3]; exact hF2.out.drewN _)
    have c5 : W3.cell? ⟨b, 5, none⟩ = some (.int .u64 r.came) := h3.hb.cell rfl
    have f5 := h3.hb.free 5
    have A1 := Lib.hid (h3.setCame ((r.came + 1) % 18446744073709551616))
    have A2 := Lib.hid (hF3.out.set ⟨b, 5, none⟩ (.int .u64 ((r.came + 1) % 18446744073709551616)) h3.hb h3.gb (fun ht => ht.2.2 rfl))
    clear hW3 h3
    go_wp2
    go_ret2
    rw [HCO.out, if_pos hf, HPK.out]
    exact ⟨rfl, ⟨_, A1.out⟩, A2.out⟩
  · have d1 : decide ((r.size : Int) ≤ ((r.ins.getD i []).length : Int)) = false := decide_eq_false (by omega)
    have d2 : decide (r.size ≤ (r.ins.getD i []).length) = false := decide_eq_false hf
    have HL := Lib.hid hl
    obtain ⟨m, hm⟩ : ∃ m, m = (r.ins.getD i []).length := ⟨_, rfl⟩
    rw [← hm] at cr d1 d2
    have HM := Lib.hid hm
    clear hm hl
    go_quiet (fail)
    clear cI c0 cr
    generalize hW3 : World.drewN _ _ = W3
    have h3 : RAt W3 base b g r := by rw [← hW3]; exact H2.out.still ((Ch.refl _ _).drewN _)
    have hF3 : Hid (Fk base TC w W3) := Lib.hid (by rw [← hW3]; exact hF2.out.drewN _)
    have hX3 : Has W3 kx [.int .u32 x.1, .string x.2] 53 := by rw [← hW3]; exact HX2.out
    clear hW3 H2 HX2
    obtain ⟨A0, c0, A', c', w4, hcr, hrun, p1, p2, p3, hRe, hFk⟩ := r_appI h3 i hil x HL.out (Nat.le_trans hbase hF3.out.below.size)
    rw [← HM.out] at hcr hrun p2 hRe hFk
    have R1 := Lib.hid hrun
    have HRE := Lib.hid hRe
    have HFK := Lib.hid (hF3.out.trans hFk)
    have cI := h3.c2
    have x0 : W3.cell? ⟨kx, 0, none⟩ = some (.int .u32 x.1) := hX3.cell rfl
    have x1 : W3.cell? ⟨kx, 1, none⟩ = some (.string x.2) := hX3.cell rfl
    have l1 := h3.hb.lt
    have l2 := hX3.lt
    have l3 : g.ib < W3.heap.size := World.block_lt_of_cell? _ _ hcr
    clear hrun hRe hFk h3 hX3 hF3
    go_wp2
    go_cut [] from 37 to 52 (fun wc => wc = w4.setCell ⟨g.ib, g.io + i, none⟩ (.slice A' (m + 1) c'))
    case first =>
      go_region_law (refine step_app rfl (.tmp 48) (.tmp 50) 38 rfl (.slice A0 m c0) (.slice (some ⟨W3.heap.size, 0, none⟩) 1 1) (.slice A' (m + 1) c') _ w4 (by simp [Act.eval]) (by simp [Act.eval]) R1.out ?_)
      all_goals
        go_wp2_with fail
        go_meet
        case rel => rfl
    case rest =>
      subst hcut
      clear cI x0 x1 l1 l2 l3 hcr p1 p2 p3 R1
      go_wp2
      go_ret2
      rw [HCO.out, if_neg hf, HPK.out]
      exact ⟨rfl, HRE.out, HFK.out⟩
end
end Go.Proofs.Ytbpinkelcbcpjaa.Ni
