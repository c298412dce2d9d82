import Derived.Test.YtbpinkelcbcpjaaNe
namespace Go.Proofs.Ytbpinkelcbcpjaa.Ni
open Go.RowKit Blk Go.Proofs.YtbpinkelcbcpjaaW.PrintWords
set_option linter.unusedVariables false

def St.setq (s : St) (i : Nat) (q : Qu) : St := { s with qs := s.qs.set i q }
theorem typ_ne {w : World} {a b : Nat} {c : List Value} {S T : TypeId} {d : Array Value} (h : Has w a c S) (k : w.heap[b]? = some (.cells d T (0, 0))) (hT : S ≠ T) : b ≠ a := by
  rintro rfl
  unfold Has at h
  rw [h] at k
  simp only [Option.some.injEq, Obj.cells.injEq] at k
  exact hT k.2.1
section
variable {w w' : World} {base top b : Nat} {L : Lay} {s : St}
theorem At.setq (h : At w base top b L s) (i : Nat) (q q' : Qu) (hi : s.qs[i]? = some q) (hq : QAt w' s.size (L.qb i) (L.ib i) (L.ob i) q') (hc : Ch (fun k => k = L.qb i ∨ k = L.ib i ∨ k = L.ob i) w w') :
    At w' base top b L (s.setq i q') := by
  have hil := (List.getElem?_eq_some_iff.1 hi).1
  have hQ := h.q i q hi
  have hlen : (s.setq i q').qs.length = s.qs.length := List.length_set
  have key : ∀ (k : Nat) (c : Array Value) (T : TypeId), T ≠ 77 → T ≠ 53 → T ≠ 9 → w.heap[k]? = some (.cells c T (0, 0)) → w'.heap[k]? = w.heap[k]? := fun k c T h1 h2 h3 hk => by
    have hlt := (Array.getElem?_eq_some_iff.1 hk).1
    refine hc.block k hlt fun hB => ?_
    rcases hB with rfl | rfl | rfl
    · exact typ_ne hQ.hq hk (Ne.symm h1) rfl
    · exact typ_ne hQ.hi hk (Ne.symm h2) rfl
    · exact typ_ne hQ.ho hk (Ne.symm h3) rfl
  refine ⟨(key _ _ _ (by decide) (by decide) (by decide) h.hb).trans h.hb, ?_, q_move h.ht fun k hk => ?_, fun j qj hj => ?_, by rw [hlen]; exact h.dq, by rw [hlen]; exact h.n1, by rw [hlen]; exact h.n8, h.s1, h.s8, h.tl, by rw [hlen]; exact h.tr, h.gb, by rw [hlen]; exact h.gq, h.gp, Nat.le_trans h.tz hc.size⟩
  · rw [hlen]
    refine q_move h.hp fun k hk => ?_
    obtain ⟨_, c, hc'⟩ := q_typed h.hp k hk
    exact key _ _ _ (by decide) (by decide) (by decide) hc'
  · obtain ⟨_, c, hc'⟩ := q_typed h.ht k hk
    exact key _ _ _ (by decide) (by decide) (by decide) hc'
  · have hj' : (s.qs.set i q')[j]? = some qj := hj
    rw [List.getElem?_set] at hj'
    by_cases e : i = j
    · subst e
      rw [if_pos rfl, if_pos hil] at hj'
      injection hj' with hj'
      subst hj'
      exact hq
    · rw [if_neg e] at hj'
      have hjl := (List.getElem?_eq_some_iff.1 hj').1
      obtain ⟨d1, d2, d3⟩ := h.dq i j hil hjl e
      have hJ := h.q j qj hj'
      refine hJ.ch hc ?_ ?_ ?_
      · rintro (x | x | x)
        · exact d1 x.symm
        · exact has_ne hJ.hq hQ.hi (by decide) x
        · exact has_ne hJ.hq hQ.ho (by decide) x
      · rintro (x | x | x)
        · exact has_ne hJ.hi hQ.hq (by decide) x
        · exact d2 x.symm
        · exact has_ne hJ.hi hQ.ho (by decide) x
      · rintro (x | x | x)
        · exact has_ne hJ.ho hQ.hq (by decide) x
        · exact has_ne hJ.ho hQ.hi (by decide) x
        · exact d3 x.symm
theorem At.frq (h : At w base top b L s) (i : Nat) (hi : i < s.qs.length) (hc : Ch (fun k => k = L.qb i ∨ k = L.ib i ∨ k = L.ob i) w w') : Fr base top w w' :=
  hc.mono fun k _ hk => by
    obtain ⟨g1, g2, g3⟩ := h.gq i hi
    rcases hk with rfl | rfl | rfl
    · exact g1
    · exact g2
    · exact g3
theorem At.setC (h : At w base top b L s) (v : Int) : At (w.setCell ⟨b, 2, none⟩ (.int .u64 v)) base top b L { s with came := v } ∧ Fr base top w (w.setCell ⟨b, 2, none⟩ (.int .u64 v)) := by
  have key : ∀ (k : Nat) (c : Array Value) (T : TypeId), T ≠ 70 → w.heap[k]? = some (.cells c T (0, 0)) → (w.setCell ⟨b, 2, none⟩ (.int .u64 v)).heap[k]? = w.heap[k]? := fun k c T h1 hk => heap_set _ _ _ _ (typ_ne h.hb hk (Ne.symm h1))
  refine ⟨⟨h.hb.set 2 _, q_move h.hp fun k hk => ?_, q_move h.ht fun k hk => ?_, fun j qj hj => (h.q j qj hj).move fun k hk => ?_, h.dq, h.n1, h.n8, h.s1, h.s8, h.tl, h.tr, h.gb, h.gq, h.gp, by rw [size_set]; exact h.tz⟩, (Ch.refl _ _).set _ _ (.inl h.gb)⟩
  · obtain ⟨_, c, hc'⟩ := q_typed h.hp k hk
    exact key _ _ _ (by decide) hc'
  · obtain ⟨_, c, hc'⟩ := q_typed h.ht k hk
    exact key _ _ _ (by decide) hc'
  · have hJ := h.q j qj hj
    rcases hk with rfl | rfl | rfl
    · exact key _ _ _ (by decide) hJ.hq
    · exact key _ _ _ (by decide) hJ.hi
    · exact key _ _ _ (by decide) hJ.ho
theorem At.setS (h : At w base top b L s) (v : Int) : At (w.setCell ⟨b, 3, none⟩ (.int .u64 v)) base top b L { s with sent := v } ∧ Fr base top w (w.setCell ⟨b, 3, none⟩ (.int .u64 v)) := by
  have key : ∀ (k : Nat) (c : Array Value) (T : TypeId), T ≠ 70 → w.heap[k]? = some (.cells c T (0, 0)) → (w.setCell ⟨b, 3, none⟩ (.int .u64 v)).heap[k]? = w.heap[k]? := fun k c T h1 hk => heap_set _ _ _ _ (typ_ne h.hb hk (Ne.symm h1))
  refine ⟨⟨h.hb.set 3 _, q_move h.hp fun k hk => ?_, q_move h.ht fun k hk => ?_, fun j qj hj => (h.q j qj hj).move fun k hk => ?_, h.dq, h.n1, h.n8, h.s1, h.s8, h.tl, h.tr, h.gb, h.gq, h.gp, by rw [size_set]; exact h.tz⟩, (Ch.refl _ _).set _ _ (.inl h.gb)⟩
  · obtain ⟨_, c, hc'⟩ := q_typed h.hp k hk
    exact key _ _ _ (by decide) hc'
  · obtain ⟨_, c, hc'⟩ := q_typed h.ht k hk
    exact key _ _ _ (by decide) hc'
  · have hJ := h.q j qj hj
    rcases hk with rfl | rfl | rfl
    · exact key _ _ _ (by decide) hJ.hq
    · exact key _ _ _ (by decide) hJ.hi
    · exact key _ _ _ (by decide) hJ.ho
/-- What came. -/
def St.come (s : St) (x : Sl) : St × Int :=
  if (s.qu (s.pick x.1)).an = s.size then ({ s with came := (s.came + 1) % 18446744073709551616 }, 6) else (s.setq (s.pick x.1).toNat ((s.qu (s.pick x.1)).put s.size x), 0)
theorem At.pick (h : At w base top b L s) (hash : Int) : ∃ i : Nat, s.pick hash = i ∧ i < s.qs.length := by
  obtain ⟨j, hj⟩ := Int.eq_ofNat_of_zero_le (show 0 ≤ hash % 128 by omega)
  have hj2 : j < 128 := by omega
  have hp : s.pick hash = s.tab.getD j 0 := by unfold St.pick; rw [hj, Int.toNat_natCast]
  have hm : s.tab.getD j 0 ∈ s.tab := by
    rw [List.getD_eq_getElem?_getD, List.getElem?_eq_getElem (by rw [h.tl]; exact hj2)]
    exact List.getElem_mem _
  obtain ⟨r1, r2⟩ := h.tr _ hm
  obtain ⟨i, hi⟩ := Int.eq_ofNat_of_zero_le r1
  exact ⟨i, hp.trans hi, by omega⟩
set_option maxHeartbeats 4000000 in
theorem came_c (h : At w base top b L s) (x : Sl) (hh : 0 ≤ x.1 ∧ x.1 ≤ 4294967295) :
    Calls Try.prog 18 #[.pointer (some ⟨b, 0, none⟩), .agg #[.int .u32 x.1, .string x.2]] w fun e w' => e = .returned (.tuple #[.int .i64 (s.pick x.1), .int .i64 (s.come x).2]) ∧ At w' base top b L (s.come x).1 ∧ Fr base top w w' := by
  obtain ⟨i, hpi, hi⟩ := h.pick x.1
  obtain ⟨q, hq, hQ⟩ := h.qu i hi
  have hco : s.come x = if q.an = s.size then ({ s with came := (s.came + 1) % 18446744073709551616 }, 6) else (s.setq i (q.put s.size x), 0) := by
    unfold St.come
    rw [hpi, qu_of hq, Int.toNat_natCast]
  have HCO := Lib.hid hco
  have hs8 := h.s8
  have hn8 := h.n8
  obtain ⟨pb, po, cp, eP, c0w, hptr⟩ := h.read
  have hbl := h.hb.lt
  obtain ⟨AT, cT, eT, _⟩ := q_slice h.ht
  have h1 := h.alloc (.cells #[.int .u32 x.1, .string x.2] 53)
  have hF := Lib.hid (Fr.ofNone (base := base) (top := top) ((Ch.refl nob w).alloc (.cells #[.int .u32 x.1, .string x.2] 53)))
  obtain ⟨W1, hW1⟩ : ∃ W1, W1 = w.alloc (.cells #[.int .u32 x.1, .string x.2] 53) := ⟨_, rfl⟩
  obtain ⟨kx, hkx⟩ : ∃ kx, kx = w.heap.size := ⟨_, rfl⟩
  have hX : Has W1 kx [.int .u32 x.1, .string x.2] 53 := by rw [hW1, hkx]; exact Has.new w _ 53
  rw [← hW1] at h1 hF
  obtain ⟨c0, hpc⟩ := h1.rd eP
  have cT1 : W1.cell? ⟨b, 1, none⟩ = some (.slice AT 128 cT) := by rw [← eT]; exact h1.hb.cell rfl
  have x0 : W1.cell? ⟨kx, 0, none⟩ = some (.int .u32 x.1) := hX.cell rfl
  have x1 : W1.cell? ⟨kx, 1, none⟩ = some (.string x.2) := hX.cell rfl
  have HT := Lib.hid eT
  have HP := Lib.hid hpi
  have HH := Lib.hid h1
  have HX := Lib.hid hX
  have hnil := nil68
  have HQ := Lib.hid hq
  have HEP := Lib.hid eP
  clear h h1 hQ hq hX eT hpi hptr eP hpc hco
  go_enter Try.func18, Try.ntmps18
  go_wp2
  rw [← hW1, ← hkx]
  clear hW1 hkx c0w hbl
  go_quiet ((go_at_call 33; exact quiet_left (pick_c (HH.out.drewN _) AT cT HT.out x.1 hh)))
  rw [HP.out]
  go_wp2
  clear c0 cT1 x0 x1 hnil
  generalize hW2 : World.drewN _ _ = W2
  have h2 : At W2 base top b L s := by rw [← hW2]; exact HH.out.drewN _
  have hX2 : Has W2 kx [.int .u32 x.1, .string x.2] 53 := by rw [← hW2]; exact HX.out
  have hF2 : Hid (Fr base top w W2) := Lib.hid (by rw [← hW2]; exact hF.out.drewN _)
  clear hW2 HH HX hF
  obtain ⟨c0, hpc⟩ := h2.rd HEP.out
  have cp2 := hpc i hi
  have x0 : W2.cell? ⟨kx, 0, none⟩ = some (.int .u32 x.1) := hX2.cell rfl
  have x1 : W2.cell? ⟨kx, 1, none⟩ = some (.string x.2) := hX2.cell rfl
  have H2 := Lib.hid h2
  clear h2 hX2 hpc
  go_still_tail 10, (by kernel_rfl)
  change wpList _ _ _ _ _ (W2.drew)
  clear c0 cp2 x0 x1
  generalize hW3 : W2.drew = W3
  have h3 : At W3 base top b L s := by rw [← hW3]; exact H2.out.drew
  have hF3 : Hid (Fr base top w W3) := Lib.hid (by rw [← hW3]; exact hF2.out.drew)
  have hQ3 := h3.q i q HQ.out
  have H3 := Lib.hid h3
  have HQ3 := Lib.hid hQ3
  clear hW3 H2 hF2 h3
  go_wp2_with fail
  by_cases hr : q.an = s.size
  · refine (put_no hQ3 x hs8 hr).mono ?_
    rintro e w4 ⟨rfl, hC⟩
    have h4 := H3.out.still hC
    have hF4 := Lib.hid (hF3.out.trans (Fr.ofNone hC))
    have c2 : w4.cell? ⟨b, 2, none⟩ = some (.int .u64 s.came) := h4.hb.cell rfl
    have f2 := h4.hb.free 2
    obtain ⟨a1, a2⟩ := h4.setC ((s.came + 1) % 18446744073709551616)
    have A1 := Lib.hid a1
    have A2 := Lib.hid (hF4.out.trans a2)
    clear hC h4 a1 a2 hQ3
    go_wp2
    go_ret2
    rw [HCO.out, if_pos hr, HP.out]
    exact ⟨rfl, A1.out, A2.out⟩
  · refine (put_ok hQ3 x hs8 (by have := HQ3.out.na; omega)).mono ?_
    rintro e w4 ⟨rfl, hQ4, hC⟩
    have hC' := hC.mono (B' := fun k => k = L.qb i ∨ k = L.ib i ∨ k = L.ob i) fun k _ hk => hk.elim .inl fun y => .inr (.inl y)
    have A1 := Lib.hid (H3.out.setq i q _ HQ.out hQ4 hC')
    have A2 := Lib.hid (hF3.out.trans (H3.out.frq i hi hC'))
    clear hC hC' hQ4 hQ3
    go_wp2
    go_ret2
    rw [HCO.out, if_neg hr, HP.out]
    exact ⟨rfl, A1.out, A2.out⟩
end
end Go.Proofs.Ytbpinkelcbcpjaa.Ni
