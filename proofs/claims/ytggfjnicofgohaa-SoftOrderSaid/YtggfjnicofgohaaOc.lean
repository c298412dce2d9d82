import Derived.Test.YtggfjnicofgohaaOb
import Derived.Test.YtggfjnicofgohaaOr2
namespace Go.Proofs.Ytggfjnicofgohaa.Sf
open Go.RowKit Blk Go.Maps Go.ChangeMaps Go.Proofs.YtggfjnicofgohaaW.PrintWords
set_option linter.unusedVariables false

theorem owns_heap {w w' : World} {k : TypeId} {R : Value → Option (DataW Value × List MemPlace)} {m n : Nat} {D : DataW Value} (h : w.ownsMap Try.prog k R m n D) (e : w'.heap[m]? = w.heap[m]?) : w'.ownsMap Try.prog k R m n D := by
  obtain ⟨es, cl, hb, r⟩ := h
  exact ⟨es, cl, e.trans hb, r⟩
theorem owns_map {w : World} {k : TypeId} {R : Value → Option (DataW Value × List MemPlace)} {m n : Nat} {D : DataW Value} (h : w.ownsMap Try.prog k R m n D) : ∃ es cl, w.heap[m]? = some (.map es cl) := by
  obtain ⟨es, cl, hb, r⟩ := h
  exact ⟨es, cl, hb⟩
theorem keeps_map {T : TypeId → Prop} {w w' : World} {m : Nat} (hg : w.grownBy w' (some m)) (hm : ∃ es cl, w.heap[m]? = some (.map es cl)) : Keeps T w w' := fun k c t _ hc => by
  refine hg.block k (Array.getElem?_eq_some_iff.1 hc).1 fun e => ?_
  injection e with e
  subst e
  obtain ⟨es, cl, hm⟩ := hm
  rw [hm] at hc
  cases hc
/-- The program's object and the law's two maps. -/
structure Wt (w0 : World) (b l mb ma : Nat) (s : St) (n : Nat) (V : Nat → Value) (wt : Nat → List Int) (at' : Nat → Int) (D Da : DataW Value) (w : World) : Prop where
  a : ∃ rr rv O, At w w0.heap.size b rr l rv O s
  below : Below w0.heap.size w0 w
  bk : Bk w (mb + 1) mb n V wt D
  am : w.ownsMap Try.prog 31 (plainElem Try.prog 3) ma n Da
  ai : IsMap Da
  aat : ∀ j, j < 256 → Da.atKey (kj j) (.lit (.int .i64 0)) = .lit (.int .i64 (at' j))
  lm : l < mb
  wm : w0.heap.size ≤ mb
  wa : w0.heap.size ≤ ma
  ne : ma ≠ mb
section
variable {w0 w : World} {b l mb ma n : Nat} {s : St} {V : Nat → Value} {wt : Nat → List Int} {at' : Nat → Int} {D Da : DataW Value}
theorem Wt.byS (h : Wt w0 b l mb ma s n V wt at' D Da w) {s' : St} {w' : World} (h1 : ∃ rr rv O, At w' w0.heap.size b rr l rv O s') (hf : Fr w0.heap.size l w w') : Wt w0 b l mb ma s' n V wt at' D Da w' := by
  have hlm := h.lm
  obtain ⟨es, cl, hm⟩ := owns_map h.bk.map
  obtain ⟨es2, cl2, hm2⟩ := owns_map h.am
  refine ⟨h1, hf.below h.below h.below.size, ⟨owns_heap h.bk.map (hf.maps _ _ _ hm), h.bk.ism, h.bk.lt, h.bk.at', fun j hj => ?_, h.bk.ne, h.bk.keys⟩, owns_heap h.am (hf.maps _ _ _ hm2), h.ai, h.aat, h.lm, h.wm, h.wa, h.ne⟩
  refine q_move (h.bk.q j hj) fun k hk => ?_
  obtain ⟨hge, c, hc⟩ := q_typed (h.bk.q j hj) k hk
  exact hf.lost k c (by omega) hc
theorem Wt.alloc (h : Wt w0 b l mb ma s n V wt at' D Da w) (o : Obj) : Wt w0 b l mb ma s n V wt at' D Da (w.alloc o) :=
  h.byS (by obtain ⟨rr, rv, O, A⟩ := h.a; exact ⟨rr, rv, O, A.move ((Keeps.refl _ _).alloc o)⟩) ((Fr.refl _ _ _).alloc o)
theorem Wt.under (h : Wt w0 b l mb ma s n V wt at' D Da w) {w' : World} (hb : Below w.heap.size w w') : Wt w0 b l mb ma s n V wt at' D Da w' :=
  h.byS (by obtain ⟨rr, rv, O, A⟩ := h.a; exact ⟨rr, rv, O, A.move (keeps_below hb)⟩) (fr_below hb)
theorem Wt.look (h : Wt w0 b l mb ma s n V wt at' D Da w) (j : Nat) (hj : j < 256) : (Instr.lookup 29 (.map (some mb)) (.int .u32 j) false).run Try.prog w = .ok (V j) w := h.bk.look j hj
theorem zero3v (w : World) : (zeroValue 3).run Try.prog w = .ok (.int .i64 0) w := by kernel_rfl
theorem Wt.lookA (h : Wt w0 b l mb ma s n V wt at' D Da w) (j : Nat) (hj : j < 256) : (Instr.lookup 30 (.map (some ma)) (.int .u32 j) false).run Try.prog w = .ok (.int .i64 (at' j)) w := by
  obtain ⟨c, hrun, hat, _⟩ := h.am.lookup_int law31 Try.underlying30 Try.underlying3 (zero3v w) (key31 hj)
  rw [h.aat j hj] at hat
  simp only [DataW.lit.injEq, Lit.int.injEq, true_and] at hat
  rw [hat, hrun]
/-- 'at[j] = c'. -/
theorem Wt.updA (h : Wt w0 b l mb ma s n V wt at' D Da w) (hn : n < maxLen) (j : Nat) (hj : j < 256) (c : Int) (hc : (Lit.int .i64 c).wf = true) :
    ∃ w', (Instr.mapUpdate 30 (.map (some ma)) (.int .u32 j) (.int .i64 c)).run Try.prog w = .ok () w' ∧ (∃ Da', Wt w0 b l mb ma s (n + 1) V wt (fun k => if k = j then c else at' k) D Da' w') ∧ Keeps (fun _ => True) w w' := by
  obtain ⟨w', hrun, ho, hg⟩ := h.am.update law31 Try.underlying30 hn (key31 hj) (plainElem_int Try.underlying3 hc)
  have hk : Keeps (fun _ => True) w w' := keeps_map hg (owns_map h.am)
  refine ⟨w', hrun, ⟨_, ?_, h.below.grown hg h.below.size (fun k e => by injection e with e; subst e; exact h.wa), ?_, ho, h.ai.put _ _, fun k hk' => ?_, h.lm, h.wm, h.wa, h.ne⟩, hk⟩
  · obtain ⟨rr, rv, O, A⟩ := h.a
    exact ⟨rr, rv, O, A.move (hk.mono fun _ _ => trivial)⟩
  · have hb := h.bk.move hg (fun e => by injection e with e; exact h.ne e.symm) (fun i hi k hk' e => by
      injection e with e
      obtain ⟨_, c', hc'⟩ := q_typed (h.bk.q i hi) k hk'
      obtain ⟨es, cl, hm⟩ := owns_map h.am
      rw [e, hm] at hc'
      cases hc')
    exact ⟨hb.map.mono (Nat.le_succ _), hb.ism, hb.lt, hb.at', hb.q, hb.ne, hb.keys⟩
  · by_cases e : k = j
    · subst e
      rw [if_pos rfl]
      exact atKey_put_same h.ai (law31.key (key31 hj)) _ _
    · rw [if_neg e, ← h.aat k hk']
      exact atKey_put_other (kj_ne e) _ _
/-- 'wait[j] = v', v what an append to it, or a cut of it, has given. -/
theorem Wt.updB (h : Wt w0 b l mb ma s n V wt at' D Da w) (hn : n < maxLen) (j : Nat) (hj : j < 256) (v' : Value) (ids : List Int) {w1 : World} (hg : w.grownBy w1 (V j).ownBlock) (hq : QRow w1 (mb + 1) 32 1 v' ids.length (ids.map (Value.int .u64))) (hat : v'.ownBlock = (V j).ownBlock ∨ ∃ b, v'.ownBlock = some b ∧ w.heap.size ≤ b) :
    ∃ w2, (Instr.mapUpdate 29 (.map (some mb)) (.int .u32 j) v').run Try.prog w1 = .ok () w2 ∧ (∃ D', Wt w0 b l mb ma s (n + 1) (fun k => if k = j then v' else V k) (fun k => if k = j then ids else wt k) at' D' Da w2) ∧ Keeps (fun t => t ≠ 32) w w2 := by
  obtain ⟨w2, hrun, hbk, hg2⟩ := h.bk.put hn j hj v' ids hg hq hat
  have hlm := h.lm
  have hwm := h.wm
  have hrow : ∀ k, (V j).ownBlock = some k → mb + 1 ≤ k ∧ ∃ c, w.heap[k]? = some (.cells c 32 (0, 0)) := fun k hk => q_typed (h.bk.q j hj) k hk
  have hm1 : ∃ es cl, w1.heap[mb]? = some (.map es cl) := by
    obtain ⟨es, cl, hm⟩ := owns_map h.bk.map
    exact ⟨es, cl, (hg.block mb (Array.getElem?_eq_some_iff.1 hm).1 (fun e => by have := (hrow mb e.symm).1; omega)).trans hm⟩
  have hk2 : Keeps (fun _ => True) w1 w2 := keeps_map hg2 hm1
  have hk1 : Keeps (fun t => t ≠ 32) w w1 := (Keeps.refl _ _).grown hg fun k hk => by
    obtain ⟨_, c, hc⟩ := hrow k hk
    exact ⟨c, 32, hc, by simp⟩
  have hk : Keeps (fun t => t ≠ 32) w w2 := hk1.trans (hk2.mono fun _ _ => trivial)
  have hB1 : Below w0.heap.size w0 w1 := h.below.grown hg h.below.size (fun k e => by have := (hrow k e).1; omega)
  obtain ⟨es2, cl2, hm2⟩ := owns_map h.am
  have hma1 : w1.heap[ma]? = w.heap[ma]? := hg.block ma (Array.getElem?_eq_some_iff.1 hm2).1 (fun e => by
    obtain ⟨_, c, hc⟩ := hrow ma e.symm
    rw [hm2] at hc
    cases hc)
  have hma2 : w2.heap[ma]? = w1.heap[ma]? := hg2.block ma (by
    have := (Array.getElem?_eq_some_iff.1 hm2).1
    have := hg.size
    omega) (fun e => by injection e with e; exact h.ne e)
  refine ⟨w2, hrun, ⟨_, ?_, hB1.grown hg2 hB1.size (fun k e => by injection e with e; omega), hbk, (owns_heap h.am (hma2.trans hma1)).mono (Nat.le_succ _), h.ai, h.aat, h.lm, h.wm, h.wa, h.ne⟩, hk⟩
  obtain ⟨rr, rv, O, A⟩ := h.a
  have hl2 : Has w2 l (s.lost.map (Value.int .u64)) 32 := by
    have h1 : w1.heap[l]? = w.heap[l]? := hg.block l A.hl.lt (fun e => by have := (hrow l e.symm).1; omega)
    exact hk2.has trivial (h1.trans A.hl)
  exact ⟨rr, rv, O, hk.has (by decide) A.hb, hk.has (by decide) A.hr, hl2, hk.q (by decide) A.ho, A.rvl, A.rowl, A.lostl, fun i v row x y => hk.q (by decide) (A.q i v row x y), A.ne, A.gb, A.gr, A.gl, A.cl, A.kl⟩
theorem own_eq {A : Option Addr} {n c n' c' : Nat} : (Value.slice A n c).ownBlock = (Value.slice A n' c').ownBlock := by cases A <;> rfl
/-- 'wait[j] = append(wait[j], id)'. -/
theorem Wt.more (h : Wt w0 b l mb ma s n V wt at' D Da w) (hn : n ≤ 1000) (j : Nat) (hj : j < 256) (id : Int) (hl : (wt j).length ≤ 100000) :
    ∃ A c A' c' w1 w2, V j = .slice A (wt j).length c ∧ (Builtin.append_ #[39, 39] 39 #[.slice A (wt j).length c, .slice (some ⟨w.heap.size, 0, none⟩) 1 1]).run Try.prog (w.alloc (.cells #[.int .u64 id] 32)) = .ok (.slice A' ((wt j).length + 1) c') w1 ∧
      (Instr.mapUpdate 29 (.map (some mb)) (.int .u32 j) (.slice A' ((wt j).length + 1) c')).run Try.prog w1 = .ok () w2 ∧ (∃ V' D', Wt w0 b l mb ma s (n + 1) V' (fun k => if k = j then wt j ++ [id] else wt k) at' D' Da w2) ∧ Keeps (fun t => t ≠ 32) w w2 := by
  have hq := h.bk.q j hj
  obtain ⟨A, c, e, _⟩ := q_slice hq
  rw [e] at hq
  obtain ⟨i0, hi, hz0, hz1, hz2⟩ := info_parts info32
  have hk0 : Keeps (fun _ => True) w (w.alloc (.cells #[.int .u64 id] 32)) := (Keeps.refl _ w).alloc _
  have hq1 := hk0.q trivial hq
  have hmb : mb + 1 ≤ w.heap.size := by
    obtain ⟨es, cl, hm⟩ := owns_map h.bk.map
    exact (Array.getElem?_eq_some_iff.1 hm).1
  obtain ⟨v', w1, hrun, hq', hg, hat⟩ := q_append (P := Try.prog) (w.alloc (.cells #[.int .u64 id] 32)) (mb + 1) 39 39 32 i0 (.int .u64 0) 1 8 Try.underlying39 hi hz0 hz1 hz2 rfl (by decide) _ _ _ hq1 ⟨w.heap.size, 0, none⟩ 1 1 [.int .u64 id] rfl
    (fun i v hv => by
      match i, hv with
      | 0, hv =>
        simp only [List.getElem?_cons_zero, Option.some.injEq] at hv
        subst hv
        rw [add_at]
        exact (Has.new w [.int .u64 id] 32).cell rfl
      | i + 1, hv => simp at hv)
    (fun v hv => by simp at hv; subst hv; rfl) (by decide) (by unfold maxLen; omega) (by omega) (by rw [alloc_size]; omega)
  obtain ⟨A', c', rfl, _⟩ := q_slice hq'
  have hgt : w.grownBy w1 (V j).ownBlock := by rw [e]; exact World.grownBy.trans (World.grownBy_alloc w _ _) hg
  obtain ⟨w2, hrun2, ⟨D', h2⟩, hk⟩ := h.updB (by unfold maxLen; omega) j hj (.slice A' ((wt j).length + 1) c') (wt j ++ [id]) hgt (by rw [List.length_append, List.map_append]; exact hq') (by
    rw [e]
    rcases hat with h1 | ⟨b2, h1, h2⟩
    · exact .inl h1
    · exact .inr ⟨b2, h1, by rw [alloc_size] at h2; omega⟩)
  exact ⟨A, c, A', c', w1, w2, e, hrun, hrun2, ⟨_, D', h2⟩, hk⟩
/-- 'wait[j] = wait[j][1:]'. -/
theorem Wt.less (h : Wt w0 b l mb ma s n V wt at' D Da w) (hn : n ≤ 1000) (j : Nat) (hj : j < 256) (x : Int) (rest : List Int) (hw : wt j = x :: rest) :
    ∃ g o c A' c' w2, V j = .slice (some ⟨g, o, none⟩) (rest.length + 1) c ∧ w.cell? ⟨g, o, none⟩ = some (.int .u64 x) ∧ (∀ W : World, (Instr.slice 39 (.slice (some ⟨g, o, none⟩) (rest.length + 1) c) (some (.int .i64 1)) none none).run Try.prog W = .ok (.slice A' rest.length c') W) ∧
      (Instr.mapUpdate 29 (.map (some mb)) (.int .u32 j) (.slice A' rest.length c')).run Try.prog w = .ok () w2 ∧ (∃ V' D', Wt w0 b l mb ma s (n + 1) V' (fun k => if k = j then rest else wt k) at' D' Da w2) ∧ Keeps (fun t => t ≠ 32) w w2 := by
  have hq := h.bk.q j hj
  rw [hw] at hq
  obtain ⟨A, c, e, hc⟩ := q_slice hq
  rw [e] at hq
  obtain ⟨g, o, rfl, _, hcell⟩ := q_at hq (by simp)
  have hq1 := q_drop (k := 1) hq (by simp)
  obtain ⟨i0, hi, hz0, hz1, hz2⟩ := info_parts info32
  have hcut0 := cut_from (P := Try.prog) 39 32 .i64 Try.underlying39 hi 1 hz1 (some ⟨g, o, none⟩) (rest.length + 1) c 1 (by decide) (by omega)
  obtain ⟨A', hA'⟩ : ∃ A', A' = (if c = 1 then (some ⟨g, o, none⟩ : Option Addr) else (some ⟨g, o, none⟩ : Option Addr).map (·.add (1 * 1))) := ⟨_, rfl⟩
  have hown : (Value.slice A' rest.length (c - 1)).ownBlock = (V j).ownBlock := by
    rw [e, hA']
    split <;> simp [Value.ownBlock, Addr.add] <;> (split <;> rfl)
  obtain ⟨w2, hrun2, ⟨D', h2⟩, hk⟩ := h.updB (by unfold maxLen; omega) j hj (.slice A' rest.length (c - 1)) rest ⟨rfl, rfl, rfl, Nat.le_refl _, fun _ _ _ => rfl⟩ (by rw [hA']; exact hq1) (.inl hown)
  exact ⟨g, o, c, A', c - 1, w2, e, (hcell 0 _ rfl).1, fun W => by rw [hcut0 W, hA']; rfl, hrun2, ⟨_, D', h2⟩, hk⟩
end
end Go.Proofs.Ytggfjnicofgohaa.Sf
