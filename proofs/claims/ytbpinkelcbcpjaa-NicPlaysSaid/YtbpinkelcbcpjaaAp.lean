import Derived.Test.YtbpinkelcbcpjaaCy
import Derived.Test.YtbpinkelcbcpjaaNp
import Derived.Test.YtbpinkelcbcpjaaRo
import Derived.Deep.Cut
namespace Go.Proofs.Ytbpinkelcbcpjaa.Ni
open Go.RowKit Blk Go.Proofs.YtbpinkelcbcpjaaW.PrintWords
set_option linter.unusedVariables false

def up2 {α : Type} (f : Nat → α) (k : Nat) (v : α) : Nat → α := fun i => if i = k then v else f i
theorem up2_same {α : Type} (f : Nat → α) (k : Nat) (v : α) : up2 f k v k = v := if_pos rfl
theorem up2_ne {α : Type} (f : Nat → α) (k i : Nat) (v : α) (h : i ≠ k) : up2 f k v i = f i := if_neg h
/-- The card, and what the law wants of each queue. -/
structure Wn (w0 : World) (top b wb : Nat) (s : St) (v : Nat → Value) (lw : Nat → List ByteArray) (w : World) : Prop where
  own : Own w0 top b s w
  hw : Has w wb [v 0, v 1] 65
  row : ∀ q, q < 2 → QRow w (wb + 1) 9 1 (v q) (lw q).length (strs (lw q))
  ne : ∀ i j, i < 2 → j < 2 → i ≠ j → NeRow (v i) (v j)
  tw : top ≤ wb
section
variable {w0 w w' : World} {top b wb : Nat} {s s' : St} {v : Nat → Value} {lw : Nat → List ByteArray}
theorem Wn.byS (h : Wn w0 top b wb s v lw w) (ho : Own w0 top b s' w') (hu : Up top w w') : Wn w0 top b wb s' v lw w' :=
  ⟨ho, h.hw.ch hu (by have := h.tw; omega), fun q hq => hu.q (by have := h.tw; omega) (h.row q hq), h.ne, h.tw⟩
theorem Wn.still (h : Wn w0 top b wb s v lw w) (hc : Ch nob w w') : Wn w0 top b wb s v lw w' := h.byS (h.own.still hc) (none_up hc)
/-- What lies below n stands, and n lies above all that is here. -/
theorem Wn.keep (h : Wn w0 top b wb s v lw w) {n : Nat} (hn : wb < n) (hr : ∀ q, q < 2 → ∀ k, (v q).ownBlock = some k → k < n) (hb : Below n w w') : Wn w0 top b wb s v lw w' :=
  ⟨h.own.keep (hb.mono (by have := h.tw; omega)), h.hw.below hb hn, fun q hq => q_move (h.row q hq) fun k hk => hb.block k (hr q hq k hk), h.ne, h.tw⟩
theorem Wn.lt (h : Wn w0 top b wb s v lw w) : wb < w.heap.size ∧ ∀ q, q < 2 → ∀ k, (v q).ownBlock = some k → k < w.heap.size := ⟨h.hw.lt, fun q hq k hk => q_lt (h.row q hq) k hk⟩
theorem Wn.cell (h : Wn w0 top b wb s v lw w) (q : Nat) (hq : q < 2) : w.cell? ⟨wb, q, none⟩ = some (v q) ∧ w.frozen? ⟨wb, q, none⟩ = false := by
  refine ⟨?_, h.hw.free q⟩
  match q, hq with
  | 0, _ => exact h.hw.cell rfl
  | 1, _ => exact h.hw.cell rfl
/-- 'want[q] = append(want[q], t)'. -/
theorem Wn.more (h : Wn w0 top b wb s v lw w) (q : Nat) (hq : q < 2) (t : ByteArray) (hl : (lw q).length ≤ 100000) :
    ∃ A c A' c' w1, v q = .slice A (lw q).length c ∧ (Builtin.append_ #[45, 45] 45 #[.slice A (lw q).length c, .slice (some ⟨w.heap.size, 0, none⟩) 1 1]).run Try.prog ((w.alloc (.cells #[.string t] 9)).drew) = .ok (.slice A' ((lw q).length + 1) c') w1 ∧
      w1.cell? ⟨wb, q, none⟩ = some (.slice A (lw q).length c) ∧ w1.frozen? ⟨wb, q, none⟩ = false ∧ Wn w0 top b wb s (up2 v q (.slice A' ((lw q).length + 1) c')) (up2 lw q (lw q ++ [t])) (w1.setCell ⟨wb, q, none⟩ (.slice A' ((lw q).length + 1) c')) := by
  obtain ⟨A, c, e, _⟩ := q_slice (h.row q hq)
  obtain ⟨i0, hi0, hz0, hz1, hz2⟩ := info_parts info9
  have h0 : Wn w0 top b wb s v lw ((w.alloc (.cells #[.string t] 9)).drew) := h.still (((Ch.refl _ _).alloc _).drew)
  have hrow := h0.row q hq
  have hwl := h.lt.1
  obtain ⟨v', w1, hrun, hq', hg, hat⟩ := q_append (P := Try.prog) ((w.alloc (.cells #[.string t] 9)).drew) (wb + 1) 45 45 9 i0 (.string ⟨#[]⟩) 1 16 Try.underlying45 hi0 hz0 hz1 hz2 rfl (by decide) _ _ _ hrow ⟨w.heap.size, 0, none⟩ 1 1 [.string t] rfl
    (fun j u hu => by
      match j, hu with
      | 0, hu =>
        simp only [List.getElem?_cons_zero, Option.some.injEq] at hu
        subst hu
        rw [add_at]
        exact (Has.new w [.string t] 9).cell rfl
      | j + 1, hu => simp at hu)
    (fun u hu => by simp at hu; subst hu; rfl) (by decide) (by unfold maxLen; omega) (by omega) (by
      show wb + 1 ≤ (w.alloc _).heap.size
      rw [alloc_size]; omega)
  obtain ⟨A', c', rfl, _⟩ := q_slice hq'
  have hown : ∀ k, (v q).ownBlock = some k → wb + 1 ≤ k := fun k hk => (q_typed hrow k hk).1
  have hB : Below (wb + 1) ((w.alloc (.cells #[.string t] 9)).drew) w1 := ⟨hg.os, hg.tape, hg.output, hg.size, fun k hk => hg.block k (by show k < (w.alloc _).heap.size; rw [alloc_size]; omega) fun e2 => by
    have := hown k e2.symm
    omega⟩
  have hw1 : Has w1 wb [v 0, v 1] 65 := h0.hw.below hB (Nat.lt_succ_self _)
  have hc1 : w1.cell? ⟨wb, q, none⟩ = some (v q) := by
    match q, hq with
    | 0, _ => exact hw1.cell rfl
    | 1, _ => exact hw1.cell rfl
  refine ⟨A, c, A', c', w1, e, by rw [← e]; exact hrun, by rw [← e]; exact hc1, hw1.free q, ?_⟩
  have hB2 : Below wb w1 (w1.setCell ⟨wb, q, none⟩ (.slice A' ((lw q).length + 1) c')) := Below.setCell (Below.refl wb w1) (Nat.le_refl wb) _
  have hrows : ∀ j, j < 2 → ∀ k, ((up2 v q (.slice A' ((lw q).length + 1) c')) j).ownBlock = some k → k ≠ wb := fun j hj k hk e2 => by
    subst e2
    by_cases ej : j = q
    · subst ej
      rw [up2_same] at hk
      have := (q_typed hq' _ hk).1
      omega
    · rw [up2_ne _ _ _ _ ej] at hk
      have := (q_typed (h.row j hj) _ hk).1
      omega
  refine ⟨h0.own.keep ((hB.mono (by have := h.tw; omega)).trans (hB2.mono h.tw)), ?_, fun j hj => ?_, fun i j hi hj hij => ?_, h.tw⟩
  · have := hw1.set q (.slice A' ((lw q).length + 1) c')
    match q, hq with
    | 0, _ => exact this
    | 1, _ => exact this
  · refine q_move (w := w1) ?_ fun k hk => heap_set _ _ _ _ (hrows j hj k hk)
    by_cases ej : j = q
    · subst ej
      rw [up2_same, up2_same, List.length_append, strs_app]
      exact hq'
    · rw [up2_ne _ _ _ _ ej, up2_ne _ _ _ _ ej]
      exact q_move (h0.row j hj) fun k hk => hg.block k (q_lt (h0.row j hj) k hk) fun e2 => h.ne j q hj hq ej k hk e2.symm
  · have hnew : ∀ j, j < 2 → j ≠ q → NeRow (v j) (.slice A' ((lw q).length + 1) c') := fun j hj ej k hk hk2 => by
      rcases hat with h1 | ⟨b2, h1, h2⟩
      · rw [h1] at hk2
        exact h.ne j q hj hq ej k hk hk2
      · rw [h1] at hk2
        injection hk2 with hk2
        have := q_lt (h0.row j hj) k hk
        omega
    by_cases ei : i = q
    · subst ei
      rw [up2_same, up2_ne _ _ _ _ (Ne.symm hij)]
      exact ne_symm (hnew j hj (Ne.symm hij))
    · rw [up2_ne _ _ i _ ei]
      by_cases ej : j = q
      · subst ej
        rw [up2_same]
        exact hnew i hi ei
      · rw [up2_ne _ _ j _ ej]
        exact h.ne i j hi hj hij
end
/-- 'got = append(got, l...)'. -/
theorem got_more {w : World} (G : Nat) (A : Option Addr) (c : Nat) (got : List ByteArray) (hq : QRow w G 9 1 (.slice A got.length c) got.length (strs got)) (Al : Option Addr) (cl : Nat) (l : List ByteArray) (bl : Nat) (hl : QRow w bl 9 1 (.slice Al l.length cl) l.length (strs l)) (h1 : 1 ≤ l.length) (hle : l.length ≤ 100000) (hge : got.length ≤ 100000) (hG : G ≤ w.heap.size) :
    ∃ A' c' w1, (Builtin.append_ #[45, 45] 45 #[.slice A got.length c, .slice Al l.length cl]).run Try.prog w = .ok (.slice A' (got ++ l).length c') w1 ∧ QRow w1 G 9 1 (.slice A' (got ++ l).length c') (got ++ l).length (strs (got ++ l)) ∧ Below G w w1 := by
  obtain ⟨i0, hi0, hz0, hz1, hz2⟩ := info_parts info9
  obtain ⟨g, o, rfl, _, hc⟩ := q_at hl (by omega)
  obtain ⟨v', w1, hrun, hq', hg, hat⟩ := q_append (P := Try.prog) w G 45 45 9 i0 (.string ⟨#[]⟩) 1 16 Try.underlying45 hi0 hz0 hz1 hz2 rfl (by decide) _ _ _ hq ⟨g, o, none⟩ l.length cl (strs l) (by rw [strs_len, Nat.mul_one])
    (fun j u hu => by rw [add_at]; exact (hc j u hu).1) (strs_one l) (by omega) (by unfold maxLen; omega) (by omega) hG
  obtain ⟨A', c', rfl, _⟩ := q_slice hq'
  rw [List.length_append, strs_app]
  exact ⟨A', c', w1, hrun, hq', ⟨hg.os, hg.tape, hg.output, hg.size, fun k hk => hg.block k (by omega) fun e => by
    have := (q_typed hq k e.symm).1
    omega⟩⟩
end Go.Proofs.Ytbpinkelcbcpjaa.Ni
