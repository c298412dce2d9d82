import Derived.Test.YtbpinkelcbcpjaaRs
namespace Go.Proofs.Ytbpinkelcbcpjaa.Ni
open Go.RowKit Blk Go.Proofs.YtbpinkelcbcpjaaW.PrintWords
attribute [local go_sem] rmax2_mx rmin2_mn Go.Proofs.YtbpinkelcbcpjaaW.PrintMore.max_two Go.Proofs.YtbpinkelcbcpjaaW.PrintMore.min_two
set_option linter.unusedVariables false

def Rf.poll (r : Rf) (x n : Int) : Rf × List Sl × Int :=
  if (0 ≤ x ∧ x < r.ins.length) ∧ 1 ≤ n ∧ n ≤ 64 then
    ({ r with ins := r.ins.set x.toNat ((r.ins.getD x.toNat []).drop (tk n (r.ins.getD x.toNat []).length)), armed := r.armed.set x.toNat (decide ((tk n (r.ins.getD x.toNat []).length : Int) < n)) }, (r.ins.getD x.toNat []).take (tk n (r.ins.getD x.toNat []).length), 0)
  else (r, [], 2)
def Rf.gone (r : Rf) (x n : Int) : Rf × List ByteArray :=
  if 0 ≤ x ∧ x < r.ins.length then ({ r with outs := r.outs.set x.toNat ((r.outs.getD x.toNat []).drop (tk n (r.outs.getD x.toNat []).length)) }, (r.outs.getD x.toNat []).take (tk n (r.outs.getD x.toNat []).length)) else (r, [])
def TP : TypeId → Prop := fun t => t ≠ 38 ∧ t ≠ 4
def TG : TypeId → Prop := fun t => t ≠ 45
section
variable {w w' : World} {base b : Nat} {g : Rl} {r : Rf}

/-- A row is cut at its front. -/
theorem r_cutI (h : RAt w base b g r) (i : Nat) (hi : i < r.ins.length) (k : Nat) (hk : k ≤ (r.ins.getD i []).length) (hl : (r.ins.getD i []).length ≤ 1000) :
    ∃ A c A' c', w.cell? ⟨g.ib, g.io + i, none⟩ = some (.slice A (r.ins.getD i []).length c) ∧ w.frozen? ⟨g.ib, g.io + i, none⟩ = false ∧ (∀ W : World, (Instr.slice 38 (.slice A (r.ins.getD i []).length c) none (some (.int .i64 (k : Int))) none).run Try.prog W = .ok (.slice A k c) W) ∧
      (∀ W : World, (Instr.slice 38 (.slice A (r.ins.getD i []).length c) (some (.int .i64 (k : Int))) none none).run Try.prog W = .ok (.slice A' ((r.ins.getD i []).length - k) c') W) ∧
      QRow w base 53 2 (.slice A k c) k (flat ((r.ins.getD i []).take k)) ∧ RAt (w.setCell ⟨g.ib, g.io + i, none⟩ (.slice A' ((r.ins.getD i []).length - k) c')) base b { g with rv := g.rv.set i (.slice A' ((r.ins.getD i []).length - k) c') } { r with ins := r.ins.set i ((r.ins.getD i []).drop k) } ∧
      (∃ cs, Has w g.ib cs 38) ∧ base ≤ g.ib := by
  have hi2 : i < r.ins.length := by exact hi
  obtain ⟨A, c, hrv, hrow, hq0, hcc⟩ := h.ri.at' i hi2
  obtain ⟨l, hlr⟩ : ∃ l, l = r.ins.getD i [] := ⟨_, rfl⟩
  rw [← hlr] at hrv hrow hq0 hl hk hcc ⊢
  obtain ⟨i0, hi0, hz0, hz1, hz2⟩ := info_parts info53
  have hc1 := cut_to (P := Try.prog) 38 53 .i64 Try.underlying38 hi0 A l.length c (k : Int) (by omega) (by omega) hcc
  have hc2 := cut_from (P := Try.prog) 38 53 .i64 Try.underlying38 hi0 2 hz1 A l.length c (k : Int) (by omega) (by omega)
  obtain ⟨A', hA'⟩ : ∃ A', A' = (if c = k then A else A.map (·.add (k * 2))) := ⟨_, rfl⟩
  simp only [Int.toNat_natCast] at hc1 hc2
  have hd := q_drop (k := k) hq0 hk
  rw [flat_drop, ← hA'] at hd
  have ht := q_take hq0 hk
  rw [flat_take] at ht
  have hcell := q_cell h.hi i _ hrv
  have hws : Rws w base 53 2 flat (g.rv.set i (.slice A' (l.length - k) (c - k))) (r.ins.set i (l.drop k)) := by
    refine h.ri.cutAt i hi2 A c l.length k hrv _ _ (by rw [List.length_drop]; exact hd) fun j hj => ?_
    rw [hA'] at hj
    have eo : ∀ n' c' n2 c2, (Value.slice A n' c').ownBlock = (Value.slice A n2 c2).ownBlock := fun _ _ _ _ => by cases A <;> rfl
    split at hj
    · rw [eo _ _ l.length c] at hj
      exact hj
    · cases A with
      | none => exact hj
      | some a => simp [Value.ownBlock] at hj ⊢; unfold Addr.add at hj; split at hj <;> exact hj
  obtain ⟨hh1, hh2⟩ := q_has h.hi h.n1
  exact ⟨A, c, A', c - k, hcell.1, hcell.2, hc1, fun W => by rw [hc2 W, hA'], ht, h.setIn i hi _ _ (Keeps.refl _ _) hws, hh1, hh2⟩

/-- A row is cut at its front. -/
theorem r_cutO (h : RAt w base b g r) (i : Nat) (hi : i < r.ins.length) (k : Nat) (hk : k ≤ (r.outs.getD i []).length) (hl : (r.outs.getD i []).length ≤ 1000) :
    ∃ A c A' c', w.cell? ⟨g.ob, g.oo + i, none⟩ = some (.slice A (r.outs.getD i []).length c) ∧ w.frozen? ⟨g.ob, g.oo + i, none⟩ = false ∧ (∀ W : World, (Instr.slice 45 (.slice A (r.outs.getD i []).length c) none (some (.int .i64 (k : Int))) none).run Try.prog W = .ok (.slice A k c) W) ∧
      (∀ W : World, (Instr.slice 45 (.slice A (r.outs.getD i []).length c) (some (.int .i64 (k : Int))) none none).run Try.prog W = .ok (.slice A' ((r.outs.getD i []).length - k) c') W) ∧
      QRow w base 9 1 (.slice A k c) k (strs ((r.outs.getD i []).take k)) ∧ RAt (w.setCell ⟨g.ob, g.oo + i, none⟩ (.slice A' ((r.outs.getD i []).length - k) c')) base b { g with ov := g.ov.set i (.slice A' ((r.outs.getD i []).length - k) c') } { r with outs := r.outs.set i ((r.outs.getD i []).drop k) } ∧
      (∃ cs, Has w g.ob cs 45) ∧ base ≤ g.ob := by
  have hi2 : i < r.outs.length := by rw [h.lo]; exact hi
  obtain ⟨A, c, hrv, hrow, hq0, hcc⟩ := h.ro.at' i hi2
  obtain ⟨l, hlr⟩ : ∃ l, l = r.outs.getD i [] := ⟨_, rfl⟩
  rw [← hlr] at hrv hrow hq0 hl hk hcc ⊢
  obtain ⟨i0, hi0, hz0, hz1, hz2⟩ := info_parts info9
  have hc1 := cut_to (P := Try.prog) 45 9 .i64 Try.underlying45 hi0 A l.length c (k : Int) (by omega) (by omega) hcc
  have hc2 := cut_from (P := Try.prog) 45 9 .i64 Try.underlying45 hi0 1 hz1 A l.length c (k : Int) (by omega) (by omega)
  obtain ⟨A', hA'⟩ : ∃ A', A' = (if c = k then A else A.map (·.add (k * 1))) := ⟨_, rfl⟩
  simp only [Int.toNat_natCast] at hc1 hc2
  have hd := q_drop (k := k) hq0 hk
  rw [strs_drop, ← hA'] at hd
  have ht := q_take hq0 hk
  rw [strs_take] at ht
  have hcell := q_cell h.ho i _ hrv
  have hws : Rws w base 9 1 strs (g.ov.set i (.slice A' (l.length - k) (c - k))) (r.outs.set i (l.drop k)) := by
    refine h.ro.cutAt i hi2 A c l.length k hrv _ _ (by rw [List.length_drop]; exact hd) fun j hj => ?_
    rw [hA'] at hj
    have eo : ∀ n' c' n2 c2, (Value.slice A n' c').ownBlock = (Value.slice A n2 c2).ownBlock := fun _ _ _ _ => by cases A <;> rfl
    split at hj
    · rw [eo _ _ l.length c] at hj
      exact hj
    · cases A with
      | none => exact hj
      | some a => simp [Value.ownBlock] at hj ⊢; unfold Addr.add at hj; split at hj <;> exact hj
  obtain ⟨hh1, hh2⟩ := q_has h.ho h.n1
  exact ⟨A, c, A', c - k, hcell.1, hcell.2, hc1, fun W => by rw [hc2 W, hA'], ht, h.setOut i hi _ _ (Keeps.refl _ _) hws, hh1, hh2⟩

set_option maxHeartbeats 4000000 in
set_option maxRecDepth 100000 in
theorem r_poll (h : RAt w base b g r) (x n : Int) (hl : ∀ i, (r.ins.getD i []).length ≤ 1000) (hbase : base ≤ w.heap.size) :
    Calls Try.prog 26 #[.pointer (some ⟨b, 0, none⟩), .int .i64 x, .int .i64 n] w fun e w' => (∃ A c kk, kk = (r.poll x n).2.1.length ∧ e = .returned (.tuple #[.slice A kk c, .int .i64 (r.poll x n).2.2]) ∧ QRow w' base 53 2 (.slice A kk c) kk (flat (r.poll x n).2.1)) ∧ Re w' base b (r.poll x n).1 ∧ Fk base TP w w' := by
  have H := Lib.hid h
  by_cases hx : 0 ≤ x ∧ x < r.ins.length
  · have hd : decide (0 ≤ x ∧ x < r.ins.length) = true := decide_eq_true hx
    have HD := Lib.hid hd
    by_cases hn : 1 ≤ n ∧ n ≤ 64
    · obtain ⟨i, hi⟩ := Int.eq_ofNat_of_zero_le hx.1
      have hil : i < r.ins.length := by omega
      have hco : r.poll x n = ({ r with ins := r.ins.set i ((r.ins.getD i []).drop (tk n (r.ins.getD i []).length)), armed := r.armed.set i (decide ((tk n (r.ins.getD i []).length : Int) < n)) }, (r.ins.getD i []).take (tk n (r.ins.getD i []).length), 0) := by
        unfold Rf.poll
        rw [if_pos ⟨hx, hn⟩, hi, Int.toNat_natCast]
      have HCO := Lib.hid hco
      subst hi
      have hle := tk_le n (r.ins.getD i []).length
      have hmn := tk_eq n (r.ins.getD i []).length
      rw [show mx n 0 = n by unfold mx; split <;> omega] at hmn
      obtain ⟨A, c, A', c', cr, fr, cut1, cut2, hq, hA, ⟨cs, hcs⟩, hge⟩ := r_cutI h i hil (tk n (r.ins.getD i []).length) hle (hl i)
      have hll : ((r.ins.getD i []).take (tk n (r.ins.getD i []).length)).length = tk n (r.ins.getD i []).length := by rw [List.length_take]; omega
      have HLL := Lib.hid hll
      have HQ := Lib.hid hq
      have HA := Lib.hid hA
      have HCS := Lib.hid hcs
      have HGE := Lib.hid hge
      have cI := h.c2
      have hn8 := h.n8
      have hi3 : (i : Int) < (r.ins.length : Int) := by omega
      have hli := hl i
      obtain ⟨hn0, hn1⟩ := hn
      clear h hx hd hco hll hq hA hcs hge hl
      generalize tk n (r.ins.getD i []).length = k at *
      generalize (r.ins.getD i []).length = m at *
      go_enter Try.func26, Try.ntmps26
      go_wp2_with fail
      refine (r_is H.out i).mono ?_
      rintro e w1 ⟨rfl, rfl⟩
      rw [HD.out]
      go_wp2
      go_region
      all_goals
        clear cr fr cut1 cut2 cI
        generalize hW3 : World.setCell _ _ _ = W3
        have h3 : RAt W3.drew base b { g with rv := g.rv.set i (.slice A' (m - k) c') } { r with ins := r.ins.set i ((r.ins.getD i []).drop k) } := by rw [← hW3]; exact HA.out.still (Ch.refl _ _).drew
        have hF3 : Hid (Fk base TP w W3.drew) := Lib.hid (by
          rw [← hW3]
          exact ((Fk.refl base TP w).set ⟨g.ib, g.io + i, none⟩ _ HCS.out HGE.out (fun ht => ht.1 rfl)).drewN 1)
        have hQ3 : Hid (QRow W3.drew base 53 2 (.slice A k c) k (flat ((r.ins.getD i []).take k))) := Lib.hid (by
          rw [← hW3]
          exact ((Keeps.refl (fun t => t = 53) w).set ⟨g.ib, g.io + i, none⟩ _ HCS.out (by decide)).q rfl HQ.out)
        clear hW3 HA
        have hl3 : ({ r with ins := r.ins.set i ((r.ins.getD i []).drop k) } : Rf).ins.length = r.ins.length := List.length_set
        have c4 := h3.c4
        rw [hl3] at c4
        have hla := h3.la
        rw [hl3] at hla
        have hca := q_cell h3.ha i (.bool (r.armed.getD i false)) (by
          show (r.armed.map Value.bool)[i]? = _
          have : i < r.armed.length := by have : r.armed.length = r.ins.length := hla; omega
          rw [List.getElem?_map, List.getD_eq_getElem?_getD, List.getElem?_eq_getElem this]
          rfl)
        have ca : W3.drew.cell? ⟨g.ab, g.ao + i, none⟩ = some (.bool (r.armed.getD i false)) := hca.1
        have fa : W3.drew.frozen? ⟨g.ab, g.ao + i, none⟩ = false := hca.2
        obtain ⟨bb, hbb⟩ : ∃ bb, decide ((k : Int) < n) = bb := ⟨_, rfl⟩
        have HBB := Lib.hid hbb
        obtain ⟨⟨cs4, hcs4⟩, hge4⟩ := q_has h3.ha h3.n1
        have A1 := Lib.hid (h3.setArm i (by rw [hl3]; exact hil) bb)
        have A2 := Lib.hid (hF3.out.set ⟨g.ab, g.ao + i, none⟩ (.bool bb) hcs4 hge4 (fun ht => ht.2 rfl))
        have A3 := Lib.hid (((Keeps.refl (fun t => t = 53) W3.drew).set ⟨g.ab, g.ao + i, none⟩ (.bool bb) hcs4 (by decide)).q rfl hQ3.out)
        clear h3 hF3 hQ3 hcs4 hge4 hca hla hl3
        generalize r.armed.getD i false = old at *
        generalize W3.drew = W4 at *
        go_wp2
        go_ret2
        rw [HCO.out, HBB.out]
        refine ⟨?_, ⟨_, A1.out⟩, A2.out⟩
        first
          | exact ⟨A, c, k, HLL.out.symm, rfl, A3.out⟩
          | (rw [HLL.out]; exact ⟨A, c, rfl, A3.out⟩)
    · have HP := Lib.hid (show r.poll x n = (r, [], 2) by unfold Rf.poll; rw [if_neg (by rintro ⟨_, y⟩; exact hn y)])
      have hn' : n < 1 ∨ 64 < n := by omega
      clear h hx hn hd hl
      by_cases hn1 : n < 1
      · go_enter Try.func26, Try.ntmps26
        go_wp2_with fail
        refine (r_is H.out x).mono ?_
        rintro e w1 ⟨rfl, rfl⟩
        rw [HD.out]
        go_wp2
        go_ret2
        rw [HP.out]
        exact ⟨⟨none, 0, 0, rfl, rfl, q_none _ _ _ _⟩, ⟨g, H.out⟩, Fk.refl _ _ _⟩
      · have hn2 : 64 < n := by omega
        clear hn'
        go_enter Try.func26, Try.ntmps26
        go_wp2_with fail
        refine (r_is H.out x).mono ?_
        rintro e w1 ⟨rfl, rfl⟩
        rw [HD.out]
        go_wp2
        go_ret2
        rw [HP.out]
        exact ⟨⟨none, 0, 0, rfl, rfl, q_none _ _ _ _⟩, ⟨g, H.out⟩, Fk.refl _ _ _⟩
  · have HP := Lib.hid (show r.poll x n = (r, [], 2) by unfold Rf.poll; rw [if_neg (by rintro ⟨y, _⟩; exact hx y)])
    have HD := Lib.hid (show decide (0 ≤ x ∧ x < r.ins.length) = false from decide_eq_false hx)
    clear h hx hl
    go_enter Try.func26, Try.ntmps26
    go_wp2_with fail
    refine (r_is H.out x).mono ?_
    rintro e w1 ⟨rfl, rfl⟩
    rw [HD.out]
    go_wp2
    go_ret2
    rw [HP.out]
    exact ⟨⟨none, 0, 0, rfl, rfl, q_none _ _ _ _⟩, ⟨g, H.out⟩, Fk.refl _ _ _⟩
set_option maxHeartbeats 4000000 in
set_option maxRecDepth 100000 in
theorem r_gone (h : RAt w base b g r) (x n : Int) (hl : ∀ i, (r.outs.getD i []).length ≤ 1000) (hbase : base ≤ w.heap.size) :
    Calls Try.prog 29 #[.pointer (some ⟨b, 0, none⟩), .int .i64 x, .int .i64 n] w fun e w' => (∃ A c kk, kk = (r.gone x n).2.length ∧ e = .returned (.slice A kk c) ∧ QRow w' base 9 1 (.slice A kk c) kk (strs (r.gone x n).2)) ∧ Re w' base b (r.gone x n).1 ∧ Fk base TG w w' := by
  have H := Lib.hid h
  by_cases hx : 0 ≤ x ∧ x < r.ins.length
  · have HD := Lib.hid (show decide (0 ≤ x ∧ x < r.ins.length) = true from decide_eq_true hx)
    obtain ⟨i, hi⟩ := Int.eq_ofNat_of_zero_le hx.1
    have hil : i < r.ins.length := by omega
    have hco : r.gone x n = ({ r with outs := r.outs.set i ((r.outs.getD i []).drop (tk n (r.outs.getD i []).length)) }, (r.outs.getD i []).take (tk n (r.outs.getD i []).length)) := by
      unfold Rf.gone
      rw [if_pos hx, hi, Int.toNat_natCast]
    have HCO := Lib.hid hco
    subst hi
    have hle := tk_le n (r.outs.getD i []).length
    have hmn := tk_eq n (r.outs.getD i []).length
    obtain ⟨m1, hm1⟩ : ∃ m1, mx n 0 = m1 := ⟨_, rfl⟩
    rw [hm1] at hmn
    obtain ⟨A, c, A', c', cr, fr, cut1, cut2, hq, hA, ⟨cs, hcs⟩, hge⟩ := r_cutO h i hil (tk n (r.outs.getD i []).length) hle (hl i)
    have hll : ((r.outs.getD i []).take (tk n (r.outs.getD i []).length)).length = tk n (r.outs.getD i []).length := by rw [List.length_take]; omega
    have HLL := Lib.hid hll
    have HQ := Lib.hid hq
    have HA := Lib.hid hA
    have HCS := Lib.hid hcs
    have HGE := Lib.hid hge
    have cO := h.c3
    have hn8 := h.n8
    have hi3 : (i : Int) < (r.ins.length : Int) := by omega
    have hli := hl i
    clear h hx hco hll hq hA hcs hge hl
    generalize tk n (r.outs.getD i []).length = k at *
    generalize (r.outs.getD i []).length = m at *
    go_enter Try.func29, Try.ntmps29
    go_wp2_with fail
    refine (r_is H.out i).mono ?_
    rintro e w1 ⟨rfl, rfl⟩
    rw [HD.out]
    go_wp2
    go_region
    all_goals
      clear cr fr cut1 cut2 cO
      generalize hW3 : World.setCell _ _ _ = W3
      have A1 : Hid (Re W3.drew base b { r with outs := r.outs.set i ((r.outs.getD i []).drop k) }) := Lib.hid (by rw [← hW3]; exact ⟨_, HA.out.still (Ch.refl _ _).drew⟩)
      have A2 : Hid (Fk base TG w W3.drew) := Lib.hid (by
        rw [← hW3]
        exact ((Fk.refl base TG w).set ⟨g.ob, g.oo + i, none⟩ _ HCS.out HGE.out (fun ht => ht rfl)).drewN 1)
      have A3 : Hid (QRow W3.drew base 9 1 (.slice A k c) k (strs ((r.outs.getD i []).take k))) := Lib.hid (by
        rw [← hW3]
        exact ((Keeps.refl (fun t => t = 9) w).set ⟨g.ob, g.oo + i, none⟩ _ HCS.out (by decide)).q rfl HQ.out)
      clear hW3 HA
      generalize W3.drew = W4 at *
      go_wp2
      go_ret
      rw [HCO.out]
      refine ⟨?_, A1.out, A2.out⟩
      first
        | exact ⟨A, c, k, HLL.out.symm, rfl, A3.out⟩
        | (rw [HLL.out]; exact ⟨A, c, rfl, A3.out⟩)
  · have HP := Lib.hid (show r.gone x n = (r, []) from if_neg hx)
    have HD := Lib.hid (show decide (0 ≤ x ∧ x < r.ins.length) = false from decide_eq_false hx)
    clear h hx hl
    go_enter Try.func29, Try.ntmps29
    go_wp2_with fail
    refine (r_is H.out x).mono ?_
    rintro e w1 ⟨rfl, rfl⟩
    rw [HD.out]
    go_wp2
    go_ret
    rw [HP.out]
    exact ⟨⟨none, 0, 0, rfl, rfl, q_none _ _ _ _⟩, ⟨g, H.out⟩, Fk.refl _ _ _⟩
end
end Go.Proofs.Ytbpinkelcbcpjaa.Ni
