import Derived.Test.YtbpinkelcbcpjaaMb
namespace Go.Proofs.Ytbpinkelcbcpjaa.Ni
open Go.RowKit Blk Go.Maps Go.ChangeMaps Go.Proofs.YtbpinkelcbcpjaaW.PrintWords
set_option linter.unusedVariables false

/-- The card and the law's map of what waits. -/
structure Mt (w0 : World) (top b mb : Nat) (s : St) (n : Nat) (V : Nat → Value) (wt : Nat → List ByteArray) (D : DataW Value) (w : World) : Prop where
  own : Own w0 top b s w
  bk : Bk w (mb + 1) mb n V wt D
  tm : top ≤ mb
section
variable {w0 w w' : World} {top b mb n : Nat} {s s' : St} {V : Nat → Value} {wt : Nat → List ByteArray} {D : DataW Value}
theorem Bk.ch {base : Nat} (h : Bk w base mb n V wt D) {B : Nat → Prop} (hc : Ch B w w') (hm : ¬ B mb) (hr : ∀ k, base ≤ k → ¬ B k) : Bk w' base mb n V wt D := by
  obtain ⟨es, cl, hb, r⟩ := h.map
  have hlt : mb < w.heap.size := (Array.getElem?_eq_some_iff.1 hb).1
  exact ⟨⟨es, cl, (hc.block mb hlt hm).trans hb, r⟩, h.ism, h.lt, h.at', fun j hj => q_move (h.q j hj) fun k hk => hc.block k (q_lt (h.q j hj) k hk) (hr k (q_typed (h.q j hj) k hk).1), h.ne, h.keys⟩
theorem Mt.byS (h : Mt w0 top b mb s n V wt D w) (ho : Own w0 top b s' w') (hu : Up top w w') : Mt w0 top b mb s' n V wt D w' :=
  ⟨ho, h.bk.ch hu (by have := h.tm; omega) (fun k hk => by have := h.tm; omega), h.tm⟩
theorem Mt.still (h : Mt w0 top b mb s n V wt D w) (hc : Ch nob w w') : Mt w0 top b mb s n V wt D w' := h.byS (h.own.still hc) (none_up hc)
theorem Mt.lt (h : Mt w0 top b mb s n V wt D w) : mb < w.heap.size := by
  obtain ⟨es, cl, hb, r⟩ := h.bk.map
  exact (Array.getElem?_eq_some_iff.1 hb).1
/-- 'wait[j] = v'', v' what an append to it, or a cut of it, has given. -/
theorem Mt.upd (h : Mt w0 top b mb s n V wt D w) (hn : n < maxLen) (j : Nat) (hj : j < 4294967296) (v' : Value) (ids : List ByteArray) {w1 : World} (hg : w.grownBy w1 (V j).ownBlock) (hq : QRow w1 (mb + 1) 9 1 v' ids.length (strs ids)) (hat : v'.ownBlock = (V j).ownBlock ∨ ∃ b, v'.ownBlock = some b ∧ w.heap.size ≤ b) :
    ∃ w2, (Instr.mapUpdate 63 (.map (some mb)) (.int .u32 j) v').run Try.prog w1 = .ok () w2 ∧ (∃ D', Mt w0 top b mb s (n + 1) (fun k => if k = j then v' else V k) (fun k => if k = j then ids else wt k) D' w2) ∧
      (∀ k, k < w.heap.size → k ≠ mb → some k ≠ (V j).ownBlock → w2.heap[k]? = w.heap[k]?) ∧ w.heap.size ≤ w2.heap.size ∧ Below w0.heap.size w w2 := by
  obtain ⟨w2, hrun, hbk, hg2⟩ := h.bk.put hn j hj v' ids hg hq hat
  have hrow : ∀ k, (V j).ownBlock = some k → mb + 1 ≤ k := fun k hk => (q_typed (h.bk.q j hj) k hk).1
  have htm := h.tm
  have hml := h.lt
  have hB1 : Below mb w w1 := ⟨hg.os, hg.tape, hg.output, hg.size, fun k hk => hg.block k (by omega) fun e => by have := hrow k e.symm; omega⟩
  have hB2 : Below mb w1 w2 := ⟨hg2.os, hg2.tape, hg2.output, hg2.size, fun k hk => hg2.block k (by have := hg.size; omega) fun e => by injection e with e; omega⟩
  refine ⟨w2, hrun, ⟨_, h.own.keep ((hB1.trans hB2).mono htm), hbk, htm⟩, fun k hk h1 h2 => ?_, Nat.le_trans hg.size hg2.size, (hB1.trans hB2).mono (Nat.le_trans h.own.bt htm)⟩
  rw [hg2.block k (Nat.lt_of_lt_of_le hk hg.size) (fun e => by injection e with e; exact h1 e), hg.block k hk h2]
/-- 'wait[j] = append(wait[j], t)'. -/
theorem Mt.more (h : Mt w0 top b mb s n V wt D w) (hn : n ≤ 1000000) (j : Nat) (hj : j < 4294967296) (t : ByteArray) (hl : (wt j).length ≤ 100000) :
    ∃ A c A' c' w1 w2, V j = .slice A (wt j).length c ∧ (Builtin.append_ #[45, 45] 45 #[.slice A (wt j).length c, .slice (some ⟨w.heap.size, 0, none⟩) 1 1]).run Try.prog ((w.alloc (.cells #[.string t] 9)).drew) = .ok (.slice A' ((wt j).length + 1) c') w1 ∧
      (∀ k c T, T ≠ 9 → Has w k c T → Has w1 k c T) ∧
      (Instr.mapUpdate 63 (.map (some mb)) (.int .u32 j) (.slice A' ((wt j).length + 1) c')).run Try.prog w1 = .ok () w2 ∧ (∃ V' D', Mt w0 top b mb s (n + 1) V' (fun k => if k = j then wt j ++ [t] else wt k) D' w2) ∧
      (∀ k c T, T ≠ 9 → Has w k c T → Has w2 k c T) := by
  have h0 : Mt w0 top b mb s n V wt D ((w.alloc (.cells #[.string t] 9)).drew) := h.still (((Ch.refl _ _).alloc _).drew)
  have hq := h0.bk.q j hj
  obtain ⟨A, c, e, _⟩ := q_slice hq
  rw [e] at hq
  obtain ⟨i0, hi, hz0, hz1, hz2⟩ := info_parts info9
  have hmb := h.lt
  obtain ⟨v', w1, hrun, hq', hg, hat⟩ := q_append (P := Try.prog) ((w.alloc (.cells #[.string t] 9)).drew) (mb + 1) 45 45 9 i0 (.string ⟨#[]⟩) 1 16 Try.underlying45 hi hz0 hz1 hz2 rfl (by decide) _ _ _ hq ⟨w.heap.size, 0, none⟩ 1 1 [.string t] rfl
    (fun i v hv => by
      match i, hv with
      | 0, hv =>
        simp only [List.getElem?_cons_zero, Option.some.injEq] at hv
        subst hv
        rw [add_at]
        exact (Has.new w [.string t] 9).cell rfl
      | i + 1, hv => simp at hv)
    (fun v hv => by simp at hv; subst hv; rfl) (by decide) (by unfold maxLen; omega) (by omega) (by show mb + 1 ≤ (w.alloc _).heap.size; rw [alloc_size]; omega)
  obtain ⟨A', c', rfl, _⟩ := q_slice hq'
  have hgt : ((w.alloc (.cells #[.string t] 9)).drew).grownBy w1 (V j).ownBlock := by rw [e]; exact hg
  obtain ⟨w2, hrun2, ⟨D', h2⟩, hk, hsz, _⟩ := h0.upd (by unfold maxLen; omega) j hj (.slice A' ((wt j).length + 1) c') (wt j ++ [t]) hgt (by rw [List.length_append, strs_app]; exact hq') (by
    rw [e]
    rcases hat with h1 | ⟨b2, h1, h2⟩
    · exact .inl h1
    · exact .inr ⟨b2, h1, h2⟩)
  have hown : ∀ (k : Nat) (d : List Value) (T : TypeId), T ≠ 9 → Has w k d T → Has ((w.alloc (.cells #[.string t] 9)).drew) k d T ∧ some k ≠ (V j).ownBlock := fun k d T hT hh => by
    have h3 : Has ((w.alloc (.cells #[.string t] 9)).drew) k d T := (hh.alloc _).drew
    refine ⟨h3, fun e2 => ?_⟩
    rw [e] at e2
    obtain ⟨_, cc, hc⟩ := q_typed hq k e2.symm
    exact typ_ne h3 hc hT rfl
  refine ⟨A, c, A', c', w1, w2, e, hrun, fun k d T hT hh => ?_, hrun2, ⟨_, D', h2⟩, fun k d T hT hh => ?_⟩
  · obtain ⟨h3, h4⟩ := hown k d T hT hh
    exact (hgt.block k h3.lt h4).trans h3
  · obtain ⟨h3, h4⟩ := hown k d T hT hh
    refine (hk k h3.lt (fun e2 => ?_) h4).trans h3
    subst e2
    obtain ⟨es, cl, hm, _⟩ := h0.bk.map
    unfold Has at h3
    rw [hm] at h3
    cases h3
/-- 'wait[j] = wait[j][1:]'. -/
theorem Mt.less (h : Mt w0 top b mb s n V wt D w) (hn : n ≤ 1000000) (j : Nat) (hj : j < 4294967296) (x : ByteArray) (rest : List ByteArray) (hw : wt j = x :: rest) :
    ∃ g o c A' c' w2, V j = .slice (some ⟨g, o, none⟩) (rest.length + 1) c ∧ w.cell? ⟨g, o, none⟩ = some (.string x) ∧ (∀ W : World, (Instr.slice 45 (.slice (some ⟨g, o, none⟩) (rest.length + 1) c) (some (.int .i64 1)) none none).run Try.prog W = .ok (.slice A' rest.length c') W) ∧
      (Instr.mapUpdate 63 (.map (some mb)) (.int .u32 j) (.slice A' rest.length c')).run Try.prog w = .ok () w2 ∧ (∃ V' D', Mt w0 top b mb s (n + 1) V' (fun k => if k = j then rest else wt k) D' w2) ∧
      (∀ k c T, T ≠ 9 → Has w k c T → Has w2 k c T) := by
  have hq := h.bk.q j hj
  rw [hw] at hq
  obtain ⟨A, c, e, hc⟩ := q_slice hq
  rw [e] at hq
  obtain ⟨g, o, rfl, _, hcell⟩ := q_at hq (by simp)
  have hq1 := q_drop (k := 1) hq (by simp)
  obtain ⟨i0, hi, hz0, hz1, hz2⟩ := info_parts info9
  have hcut0 := cut_from (P := Try.prog) 45 9 .i64 Try.underlying45 hi 1 hz1 (some ⟨g, o, none⟩) (rest.length + 1) c 1 (by decide) (by omega)
  obtain ⟨A', hA'⟩ : ∃ A', A' = (if c = 1 then (some ⟨g, o, none⟩ : Option Addr) else (some ⟨g, o, none⟩ : Option Addr).map (·.add (1 * 1))) := ⟨_, rfl⟩
  have hown : (Value.slice A' rest.length (c - 1)).ownBlock = (V j).ownBlock := by
    rw [e, hA']
    split <;> simp [Value.ownBlock, Addr.add] <;> (split <;> rfl)
  obtain ⟨w2, hrun2, ⟨D', h2⟩, hk, _, _⟩ := h.upd (by unfold maxLen; omega) j hj (.slice A' rest.length (c - 1)) rest ⟨rfl, rfl, rfl, Nat.le_refl _, fun _ _ _ => rfl⟩ (by rw [hA']; exact hq1) (.inl hown)
  refine ⟨g, o, c, A', c - 1, w2, e, (hcell 0 _ rfl).1, fun W => by rw [hcut0 W, hA']; rfl, hrun2, ⟨_, D', h2⟩, fun k d T hT hh => ?_⟩
  refine (hk k hh.lt (fun e2 => ?_) fun e2 => ?_).trans hh
  · subst e2
    obtain ⟨es, cl, hm, _⟩ := h.bk.map
    unfold Has at hh
    rw [hm] at hh
    cases hh
  · rw [e] at e2
    obtain ⟨_, cc, hc2⟩ := q_typed hq k e2.symm
    exact typ_ne hh hc2 hT rfl
theorem mt_start (h : Own w0 top b s w) : Mt w0 top b w.heap.size s 0 (fun _ => .slice none 0 0) (fun _ => []) (.map []) (w.alloc (.map #[] 0)) := ⟨h.alloc _, bk_start w, h.tz⟩
end
end Go.Proofs.Ytbpinkelcbcpjaa.Ni
