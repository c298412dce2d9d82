import Derived.Test.YtbpinkelcbcpjaaNh
namespace Go.Proofs.Ytbpinkelcbcpjaa.Ni
open Go.RowKit Blk Go.Proofs.YtbpinkelcbcpjaaW.PrintWords
set_option linter.unusedVariables false

/-- A queue as it is made. -/
def qfresh (size : Nat) : Qu := ⟨List.replicate size (0, ⟨#[]⟩), 0, 0, List.replicate size ⟨#[]⟩, 0, 0, true⟩
def fresh (n size : Nat) : St := ⟨size, List.replicate n (qfresh size), ev n 128, 0, 0⟩
theorem strs_rep (n : Nat) : strs (List.replicate n ⟨#[]⟩) = List.replicate n (.string ⟨#[]⟩) := by simp [strs]
theorem alloc_size (w : World) (o : Obj) : (w.alloc o).heap.size = w.heap.size + 1 := Array.size_push ..
theorem new_at (w : World) (c : List Value) (T : TypeId) (k : Nat) (hk : w.heap.size = k) : Has (w.alloc (.cells c.toArray T)) k c T := hk ▸ Has.new w c T
/-- The card while it is made: k queues stand. -/
structure Yg (w : World) (base b size n k : Nat) (L : Lay) : Prop where
  hb : Has w b [L.P, L.T, .int .u64 0, .int .u64 0] 70
  hp : QRow w base 71 1 L.P k (ptrs L k)
  ht : QRow w base 3 1 L.T 128 ((ev n 128).map (Value.int .i64))
  q : ∀ i, i < k → QAt w size (L.qb i) (L.ib i) (L.ob i) (qfresh size)
  dq : ∀ i j, i < k → j < k → i ≠ j → L.qb i ≠ L.qb j ∧ L.ib i ≠ L.ib j ∧ L.ob i ≠ L.ob j
  gb : base ≤ b
  gq : ∀ i, i < k → base ≤ L.qb i ∧ base ≤ L.ib i ∧ base ≤ L.ob i
  bz : base ≤ w.heap.size
def upd (f : Nat → Nat) (k v : Nat) : Nat → Nat := fun i => if i = k then v else f i
theorem upd_same (f : Nat → Nat) (k v : Nat) : upd f k v k = v := if_pos rfl
theorem upd_ne (f : Nat → Nat) (k v i : Nat) (h : i ≠ k) : upd f k v i = f i := if_neg h
theorem ptrs_succ (L : Lay) (k qb ib ob : Nat) (P : Value) : ptrs ⟨P, L.T, upd L.qb k qb, upd L.ib k ib, upd L.ob k ob⟩ (k + 1) = ptrs L k ++ [.pointer (some ⟨qb, 0, none⟩)] := by
  unfold ptrs
  rw [List.range_succ, List.map_append]
  congr 1
  · refine List.map_congr_left fun i hi => ?_
    rw [List.mem_range] at hi
    show Value.pointer (some ⟨upd L.qb k qb i, 0, none⟩) = _
    rw [upd_ne _ _ _ _ (by omega)]
  · show [Value.pointer (some ⟨upd L.qb k qb k, 0, none⟩)] = _
    rw [upd_same]
/-- One queue more. -/
theorem yg_step {w W : World} {base b size n k : Nat} {L : Lay} (h : Yg w base b size n k L) (hk : k < 8) (hs : 1 ≤ size) (qb ib ob xb : Nat) (hC : Ch nob w W)
    (hi : Has W ib (flat (qfresh size).a) 53) (ho : Has W ob (strs (qfresh size).o) 9) (hq : Has W qb (qc ib ob size (qfresh size)) 77) (hx : Has W xb [.pointer (some ⟨qb, 0, none⟩)] 71)
    (g1 : w.heap.size ≤ qb) (g2 : w.heap.size ≤ ib) (g3 : w.heap.size ≤ ob) :
    ∃ A c A' c' W1, L.P = .slice A k c ∧ (Builtin.append_ #[68, 68] 68 #[.slice A k c, .slice (some ⟨xb, 0, none⟩) 1 1]).run Try.prog W = .ok (.slice A' (k + 1) c') W1 ∧
      W1.cell? ⟨b, 0, none⟩ = some (.slice A k c) ∧ W1.frozen? ⟨b, 0, none⟩ = false ∧
      Yg (W1.setCell ⟨b, 0, none⟩ (.slice A' (k + 1) c')) base b size n (k + 1) ⟨.slice A' (k + 1) c', L.T, upd L.qb k qb, upd L.ib k ib, upd L.ob k ob⟩ ∧ Below base w (W1.setCell ⟨b, 0, none⟩ (.slice A' (k + 1) c')) := by
  obtain ⟨A, c, e, _⟩ := q_slice h.hp
  obtain ⟨i0, hi0, hz0, hz1, hz2⟩ := info_parts info71
  have hqP : QRow W base 71 1 L.P k (ptrs L k) := q_move h.hp fun j hj => hC.block j (q_lt h.hp j hj) id
  have hbz := Nat.le_trans h.bz hC.size
  obtain ⟨v', W1, hrun, hq', hg, hat⟩ := q_append (P := Try.prog) W base 68 68 71 i0 (.pointer none) 1 8 Try.underlying68 hi0 hz0 hz1 hz2 rfl (by decide) L.P k (ptrs L k) hqP ⟨xb, 0, none⟩ 1 1 [.pointer (some ⟨qb, 0, none⟩)] rfl
    (fun j u hu => by
      match j, hu with
      | 0, hu =>
        simp only [List.getElem?_cons_zero, Option.some.injEq] at hu
        subst hu
        rw [add_at]
        exact hx.cell rfl
      | j + 1, hu => simp at hu)
    (fun u hu => by simp at hu; subst hu; rfl) (by decide) (by unfold maxLen; omega) (by omega) hbz
  obtain ⟨A', c', rfl, _⟩ := q_slice hq'
  -- the blocks of other kinds stand
  have keep : ∀ (j : Nat) (d : List Value) (T : TypeId), T ≠ 71 → Has W j d T → Has W1 j d T := fun j d T hT hj => by
    unfold Has
    rw [hg.block j hj.lt (fun e2 => ?_)]
    · exact hj
    · obtain ⟨_, cc, hc⟩ := q_typed hqP j e2.symm
      exact typ_ne hj hc hT rfl
  have old : ∀ (j : Nat) (d : List Value) (T : TypeId), Has w j d T → Has W j d T := fun j d T hj => (hC.block j hj.lt id).trans hj
  have hb1 := keep _ _ _ (by decide) (old _ _ _ h.hb)
  have set : ∀ (j : Nat) (d : List Value) (T : TypeId), T ≠ 70 → Has W1 j d T → Has (W1.setCell ⟨b, 0, none⟩ (.slice A' (k + 1) c')) j d T := fun j d T hT hj => hj.setOther _ _ (has_ne hj hb1 hT)
  have hqa : ∀ {qb ib ob q}, QAt W size qb ib ob q → QAt (W1.setCell ⟨b, 0, none⟩ (.slice A' (k + 1) c')) size qb ib ob q := fun H =>
    ⟨set _ _ _ (by decide) (keep _ _ _ (by decide) H.hq), set _ _ _ (by decide) (keep _ _ _ (by decide) H.hi), set _ _ _ (by decide) (keep _ _ _ (by decide) H.ho), H.la, H.lo, H.fa, H.na, H.fo, H.no⟩
  refine ⟨A, c, A', c', W1, e, by rw [← e]; exact hrun, by rw [← e]; exact hb1.cell rfl, hb1.free 0, ⟨hb1.set 0 _, ?_, ?_, fun i hi' => ?_, fun i j hi' hj' hij => ?_, h.gb, fun i hi' => ?_, ?_⟩, ?_⟩
  · rw [ptrs_succ]
    exact q_move hq' fun j hj => heap_set _ _ _ _ (by
      obtain ⟨_, cc, hc⟩ := q_typed hq' j hj
      exact typ_ne hb1 hc (by decide))
  · refine q_move h.ht fun j hj => ?_
    obtain ⟨_, cc, hc⟩ := q_typed h.ht j hj
    have hjl := q_lt h.ht j hj
    have e1 : W.heap[j]? = w.heap[j]? := hC.block j hjl id
    have e2 : W1.heap[j]? = W.heap[j]? := hg.block j (Nat.lt_of_lt_of_le hjl hC.size) fun e2 => by
      obtain ⟨_, c2, hc2⟩ := q_typed hqP j e2.symm
      rw [e1, hc] at hc2
      simp only [Option.some.injEq, Obj.cells.injEq] at hc2
      exact absurd hc2.2.1 (by decide)
    rw [heap_set _ _ _ _ (by
      rintro rfl
      exact typ_ne hb1 (e2.trans (e1.trans hc)) (by decide) rfl), e2, e1]
  · show QAt _ size (upd L.qb k qb i) (upd L.ib k ib i) (upd L.ob k ob i) _
    by_cases e2 : i = k
    · subst e2
      rw [upd_same, upd_same, upd_same]
      exact hqa ⟨hq, hi, ho, by simp [qfresh], by simp [qfresh], hs, Nat.zero_le _, hs, Nat.zero_le _⟩
    · rw [upd_ne _ _ _ _ e2, upd_ne _ _ _ _ e2, upd_ne _ _ _ _ e2]
      have H := h.q i (by omega)
      exact hqa ⟨old _ _ _ H.hq, old _ _ _ H.hi, old _ _ _ H.ho, H.la, H.lo, H.fa, H.na, H.fo, H.no⟩
  · show upd L.qb k qb i ≠ upd L.qb k qb j ∧ upd L.ib k ib i ≠ upd L.ib k ib j ∧ upd L.ob k ob i ≠ upd L.ob k ob j
    by_cases e2 : i = k
    · subst e2
      have hj := h.q j (by omega)
      rw [upd_same, upd_same, upd_same, upd_ne _ _ _ _ (Ne.symm hij), upd_ne _ _ _ _ (Ne.symm hij), upd_ne _ _ _ _ (Ne.symm hij)]
      have := hj.hq.lt; have := hj.hi.lt; have := hj.ho.lt
      omega
    · rw [upd_ne _ _ _ i e2, upd_ne _ _ _ i e2, upd_ne _ _ _ i e2]
      have hii := h.q i (by omega)
      by_cases e3 : j = k
      · subst e3
        rw [upd_same, upd_same, upd_same]
        have := hii.hq.lt; have := hii.hi.lt; have := hii.ho.lt
        omega
      · rw [upd_ne _ _ _ j e3, upd_ne _ _ _ j e3, upd_ne _ _ _ j e3]
        exact h.dq i j (by omega) (by omega) hij
  · show base ≤ upd L.qb k qb i ∧ base ≤ upd L.ib k ib i ∧ base ≤ upd L.ob k ob i
    have hbz' := h.bz
    by_cases e2 : i = k
    · subst e2
      rw [upd_same, upd_same, upd_same]
      omega
    · rw [upd_ne _ _ _ _ e2, upd_ne _ _ _ _ e2, upd_ne _ _ _ _ e2]
      exact h.gq i (by omega)
  · rw [size_set]
    exact Nat.le_trans hbz hg.size
  · have hB1 : Below base w W := ⟨hC.os, hC.tape, hC.output, hC.size, fun j hj => hC.block j (Nat.lt_of_lt_of_le hj h.bz) id⟩
    have hB2 : Below base W W1 := ⟨hg.os, hg.tape, hg.output, hg.size, fun j hj => hg.block j (by omega) fun e2 => by
      have := (q_typed hqP j e2.symm).1
      omega⟩
    exact (hB1.trans hB2).setCell h.gb _
theorem yg_done {w : World} {base b size n : Nat} {L : Lay} (h : Yg w base b size n n L) (hn : 1 ≤ n ∧ n ≤ 8) (hs : 1 ≤ size ∧ size ≤ 256) : At w base w.heap.size b L (fresh n size) := by
  have hl : (fresh n size).qs.length = n := List.length_replicate ..
  refine ⟨h.hb, by rw [hl]; exact h.hp, h.ht, fun i q hq => ?_, by rw [hl]; exact h.dq, by rw [hl]; exact hn.1, by rw [hl]; exact hn.2, hs.1, hs.2, ev_len _ _, fun x hx => ?_, ⟨h.gb, h.hb.lt⟩, fun i hi => ?_, fun k hk => q_lt h.hp k hk, Nat.le_refl _⟩
  · have hi := (List.getElem?_eq_some_iff.1 hq).1
    rw [hl] at hi
    have : q = qfresh size := by
      have hq' : (List.replicate n (qfresh size))[i]? = some q := hq
      rw [List.getElem?_replicate, if_pos hi] at hq'
      injection hq' with hq'
      exact hq'.symm
    subst this
    exact h.q i hi
  · rw [hl]
    obtain ⟨j, hj, rfl⟩ := List.mem_map.1 hx
    rw [List.mem_range] at hj
    rw [if_pos hj]
    have := Nat.mod_lt j (show 0 < n by omega)
    omega
  · rw [hl] at hi
    obtain ⟨g1, g2, g3⟩ := h.gq i hi
    have H := h.q i hi
    exact ⟨⟨g1, H.hq.lt⟩, ⟨g2, H.hi.lt⟩, ⟨g3, H.ho.lt⟩⟩
end Go.Proofs.Ytbpinkelcbcpjaa.Ni
