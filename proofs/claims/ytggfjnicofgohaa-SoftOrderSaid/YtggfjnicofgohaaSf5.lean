import Derived.Test.YtggfjnicofgohaaSf4
namespace Go.Proofs.Ytggfjnicofgohaa.Sf
open Go.RowKit Blk Go.Proofs.YtggfjnicofgohaaW.PrintWords
set_option linter.unusedVariables false

/-- What the object's methods may turn. -/
structure Fr (base l : Nat) (w w' : World) : Prop where
  os : w'.os = w.os
  tape : w'.tape = w.tape
  output : w'.output = w.output
  size : w.heap.size ≤ w'.heap.size
  low : ∀ k, k < base → k < w.heap.size → w'.heap[k]? = w.heap[k]?
  kept : Keeps (fun t => t ≠ 62 ∧ t ≠ 65 ∧ t ≠ 67 ∧ t ≠ 32) w w'
  lost : ∀ (k : Nat) (c : Array Value), k ≠ l → w.heap[k]? = some (.cells c 32 (0, 0)) → w'.heap[k]? = w.heap[k]?
  maps : ∀ (k : Nat) (es : Array MapEntry) (cl : Nat), w.heap[k]? = some (.map es cl) → w'.heap[k]? = w.heap[k]?
theorem Fr.refl (base l : Nat) (w : World) : Fr base l w w := ⟨rfl, rfl, rfl, Nat.le_refl _, fun _ _ _ => rfl, Keeps.refl _ _, fun _ _ _ _ => rfl, fun _ _ _ _ => rfl⟩
theorem Fr.trans {base l : Nat} {w w1 w2 : World} (h : Fr base l w w1) (k : Fr base l w1 w2) : Fr base l w w2 :=
  ⟨k.os.trans h.os, k.tape.trans h.tape, k.output.trans h.output, Nat.le_trans h.size k.size,
   fun i hi hs => (k.low i hi (Nat.lt_of_lt_of_le hs h.size)).trans (h.low i hi hs), h.kept.trans k.kept,
   fun i c hi hc => by have h1 := h.lost i c hi hc; exact (k.lost i c hi (h1.trans hc)).trans h1,
   fun i es cl hc => by have h1 := h.maps i es cl hc; exact (k.maps i es cl (h1.trans hc)).trans h1⟩
theorem Fr.alloc {base l : Nat} {w w1 : World} (h : Fr base l w w1) (o : Obj) : Fr base l w (w1.alloc o) :=
  h.trans ⟨rfl, rfl, rfl, by rw [alloc_size]; omega, fun k hk hs => by
    show (w1.heap.push o)[k]? = _; rw [Array.getElem?_push]; split <;> first | omega | rfl, (Keeps.refl _ _).alloc o, fun k c hk hc => by
    have hl : k < w1.heap.size := (Array.getElem?_eq_some_iff.1 hc).1
    show (w1.heap.push o)[k]? = _; rw [Array.getElem?_push]; split <;> first | omega | rfl, fun k es cl hc => by
    have hl : k < w1.heap.size := (Array.getElem?_eq_some_iff.1 hc).1
    show (w1.heap.push o)[k]? = _; rw [Array.getElem?_push]; split <;> first | omega | rfl⟩
theorem Fr.drew {base l : Nat} {w w1 : World} (h : Fr base l w w1) : Fr base l w w1.drew := ⟨h.os, h.tape, h.output, h.size, h.low, h.kept, h.lost, h.maps⟩
theorem Fr.drewN {base l : Nat} {w w1 : World} (h : Fr base l w w1) (n : Nat) : Fr base l w (w1.drewN n) := ⟨h.os, h.tape, h.output, h.size, h.low, h.kept, h.lost, h.maps⟩
theorem Fr.set {base l : Nat} {w w1 : World} (h : Fr base l w w1) (a : Addr) (v : Value) {c : List Value} {t : TypeId} (hb : Has w1 a.block c t) (hge : base ≤ a.block) (ht : t = 62 ∨ t = 65 ∨ t = 67 ∨ (t = 32 ∧ a.block = l)) : Fr base l w (w1.setCell a v) :=
  h.trans ⟨rfl, rfl, rfl, by rw [size_set]; exact Nat.le_refl _, fun k hk hs => heap_set _ _ _ _ (by omega), (Keeps.refl _ _).set _ _ hb (fun x => ht.elim x.1 fun ht => ht.elim x.2.1 fun ht => ht.elim x.2.2.1 fun ht => x.2.2.2 ht.1), fun k d hk hd => by
    refine heap_set _ _ _ _ fun e => ?_
    subst e
    unfold Has at hb
    rw [hb] at hd
    simp only [Option.some.injEq, Obj.cells.injEq] at hd
    have := hd.2.1
    rcases ht with e | e | e | ⟨e, e2⟩
    · rw [this] at e; exact absurd e (by decide)
    · rw [this] at e; exact absurd e (by decide)
    · rw [this] at e; exact absurd e (by decide)
    · exact hk e2, fun k es cl hd => by
    refine heap_set _ _ _ _ fun e => ?_
    subst e
    unfold Has at hb
    rw [hb] at hd
    cases hd⟩
theorem Fr.grown {base l : Nat} {w w1 w2 : World} (h : Fr base l w w1) {row : Option Nat} (hg : w1.grownBy w2 row) (hr : ∀ k, row = some k → base ≤ k ∧ ∃ c, w1.heap[k]? = some (.cells c 67 (0, 0))) : Fr base l w w2 :=
  h.trans ⟨hg.os, hg.tape, hg.output, hg.size, fun k hk hs => hg.block k hs (fun e => by have := (hr k e.symm).1; omega), (Keeps.refl _ _).grown hg (fun k e => by obtain ⟨_, c, hc⟩ := hr k e; exact ⟨c, 67, hc, fun x => x.2.2.1 rfl⟩), fun k c hk hc => by
    have hl : k < w1.heap.size := (Array.getElem?_eq_some_iff.1 hc).1
    refine hg.block k hl fun e => ?_
    obtain ⟨_, c', hc'⟩ := hr k e.symm
    rw [hc'] at hc
    simp only [Option.some.injEq, Obj.cells.injEq] at hc
    exact absurd hc.2.1 (by decide), fun k es cl hc => by
    have hl : k < w1.heap.size := (Array.getElem?_eq_some_iff.1 hc).1
    refine hg.block k hl fun e => ?_
    obtain ⟨_, c', hc'⟩ := hr k e.symm
    rw [hc'] at hc
    cases hc⟩
theorem Fr.below {base l : Nat} {w0 w w' : World} (h : Fr base l w w') (hb : Below base w0 w) (hs : base ≤ w.heap.size) : Below base w0 w' :=
  hb.trans ⟨h.os, h.tape, h.output, h.size, fun k hk => h.low k hk (by omega)⟩

/-- One backlog becomes another one. -/
theorem At.rowSet {w w' : World} {base b r l : Nat} {rv : List Value} {O : Value} {s : St} (h : At w base b r l rv O s) (i : Nat) (hi : i < s.n) (v' : Value) (row' : List (Int × Int))
    (hk : Keeps (fun t => t = 62 ∨ t = 65 ∨ t = 32 ∨ t = 3) w w')
    (hoth : ∀ (j : Nat) (v : Value) (row : List (Int × Int)), j ≠ i → rv[j]? = some v → s.rows[j]? = some row → QRow w' base 67 2 v row.length (flat row) ∧ NeRow v v')
    (hq : QRow w' base 67 2 v' row'.length (flat row')) : At (w'.setCell ⟨r, i, none⟩ v') base b r l (rv.set i v') O { s with rows := s.rows.set i row' } := by
  have hr := hk.has (by decide) h.hr
  have hks : Keeps (fun t => t ≠ 65) w' (w'.setCell ⟨r, i, none⟩ v') := (Keeps.refl _ _).set _ _ hr (by simp)
  refine ⟨hks.has (by decide) (hk.has (by decide) h.hb), hr.set i v', hks.has (by decide) (hk.has (by decide) h.hl), hks.q (by decide) (hk.q (by decide) h.ho), by rw [List.length_set]; exact h.rvl, by show (s.rows.set i row').length = _; rw [List.length_set]; exact h.rowl, h.lostl, ?_, ?_, h.gb, h.gr, h.gl, h.cl, h.kl⟩
  · intro j v row hv hrow
    by_cases e : j = i
    · subst e
      rw [List.getElem?_set_self (by have := h.rvl; omega)] at hv
      rw [show (({ s with rows := s.rows.set j row' } : St).rows)[j]? = (s.rows.set j row')[j]? from rfl, List.getElem?_set_self (by have := h.rowl; omega)] at hrow
      injection hv with hv
      injection hrow with hrow
      subst hv hrow
      exact hks.q (by decide) hq
    · rw [List.getElem?_set_ne (Ne.symm e)] at hv
      rw [show (({ s with rows := s.rows.set i row' } : St).rows)[j]? = (s.rows.set i row')[j]? from rfl, List.getElem?_set_ne (Ne.symm e)] at hrow
      exact hks.q (by decide) (hoth j v row e hv hrow).1
  · intro j k v u hjk hv hu
    have hrows : ∀ (j : Nat) (v : Value), j ≠ i → rv[j]? = some v → NeRow v v' := by
      intro j v hj hv
      have hjl : j < rv.length := (List.getElem?_eq_some_iff.1 hv).1
      have := h.rvl
      have := h.rowl
      exact (hoth j v _ hj hv (List.getElem?_eq_getElem (show j < s.rows.length by omega))).2
    by_cases e : j = i
    · subst e
      rw [List.getElem?_set_self (by have := h.rvl; omega)] at hv
      injection hv with hv
      subst hv
      rw [List.getElem?_set_ne hjk] at hu
      exact ne_symm (hrows k u (Ne.symm hjk) hu)
    · rw [List.getElem?_set_ne (Ne.symm e)] at hv
      by_cases e2 : k = i
      · subst e2
        rw [List.getElem?_set_self (by have := h.rvl; omega)] at hu
        injection hu with hu
        subst hu
        exact hrows j v e hv
      · rw [List.getElem?_set_ne (Ne.symm e2)] at hu
        exact h.ne j k v u hjk hv hu

/-- One buffer more, last in a backlog. -/
theorem put_row {w : World} {base b r l : Nat} {rv : List Value} {O : Value} {s : St} (h : At w base b r l rv O s) (i : Nat) (hi : i < s.n) (A : Option Addr) (c : Nat) (row : List (Int × Int)) (hrow : s.rows[i]? = some row) (hv : rv[i]? = some (.slice A row.length c)) (hl : row.length ≤ 256) (id hash : Int) (hbase : base ≤ w.heap.size) :
    ∃ A' c' w1, (Builtin.append_ #[65, 65] 65 #[.slice A row.length c, .slice (some ⟨w.heap.size, 0, none⟩) 1 1]).run Try.prog (w.alloc (.cells #[.int .u64 id, .int .u32 hash] 67)).drew = .ok (.slice A' (row.length + 1) c') w1 ∧
      w1.cell? ⟨b, 1, none⟩ = some (.slice (some ⟨r, 0, none⟩) s.n s.n) ∧ w1.cell? ⟨r, i, none⟩ = some (.slice A row.length c) ∧ w1.frozen? ⟨r, i, none⟩ = false ∧
      At (w1.setCell ⟨r, i, none⟩ (.slice A' (row.length + 1) c')) base b r l (rv.set i (.slice A' (row.length + 1) c')) O { s with rows := s.rows.set i (row ++ [(id, hash)]) } ∧ Fr base l w (w1.setCell ⟨r, i, none⟩ (.slice A' (row.length + 1) c')) := by
  obtain ⟨i0, hi0, hz0, hz1, hz2⟩ := info_parts info67
  have hq0 := h.q i _ _ hv hrow
  have hk0 : Keeps (fun _ => True) w (w.alloc (.cells #[.int .u64 id, .int .u32 hash] 67)).drew := ((Keeps.refl _ w).alloc _).drew
  have hq := hk0.q trivial hq0
  obtain ⟨v', w1, hrun, hq', hg, hat⟩ := q_append (P := Try.prog) (w.alloc (.cells #[.int .u64 id, .int .u32 hash] 67)).drew base 65 65 67 i0 (.agg #[.int .u64 0, .int .u32 0]) 2 16 Try.underlying65 hi0 hz0 hz1 hz2 rfl (by decide) _ _ _ hq ⟨w.heap.size, 0, none⟩ 1 1 [.int .u64 id, .int .u32 hash] rfl
    (fun j u hu => by
      rw [add_at]
      match j, hu with
      | 0, hu => simp only [List.getElem?_cons_zero, Option.some.injEq] at hu; subst hu; exact (Has.new w [.int .u64 id, .int .u32 hash] 67).cell rfl
      | 1, hu => simp only [List.getElem?_cons_succ, List.getElem?_cons_zero, Option.some.injEq] at hu; subst hu; exact (Has.new w [.int .u64 id, .int .u32 hash] 67).cell rfl
      | j + 2, hu => simp at hu)
    (fun u hu => by simp at hu; rcases hu with rfl | rfl <;> rfl) (by decide) (by unfold maxLen; omega) (by omega) (by show base ≤ (w.alloc _).heap.size; rw [alloc_size]; omega)
  obtain ⟨A', c', rfl, _⟩ := q_slice hq'
  have hrowty : ∀ k, (Value.slice A row.length c).ownBlock = some k → base ≤ k ∧ ∃ d, (w.alloc (.cells #[.int .u64 id, .int .u32 hash] 67)).drew.heap[k]? = some (.cells d 67 (0, 0)) := fun k hk => q_typed hq k hk
  have hkp : Keeps (fun t => t ≠ 67) w w1 := ((((Keeps.refl _ w).alloc _).drew).grown hg fun k hk => by
    obtain ⟨_, d, hd⟩ := hrowty k hk
    exact ⟨d, 67, hd, by simp⟩)
  have hb1 := hkp.has (by decide) h.hb
  have hr1 := hkp.has (by decide) h.hr
  refine ⟨A', c', w1, hrun, hb1.cell rfl, hr1.cell hv, hr1.free i, ?_, ?_⟩
  · refine h.rowSet i hi _ _ (hkp.mono (fun t ht => by rcases ht with e | e | e | e <;> (rw [e]; decide))) ?_ ?_
    · intro j v rw_ hj hvj hrj
      have hqj := hk0.q trivial (h.q j v rw_ hvj hrj)
      have hne := h.ne j i v _ hj hvj hv
      refine ⟨q_move hqj fun k hk => hg.block k (q_lt hqj k hk) (fun e => hne k hk e.symm), ?_⟩
      intro k hk e
      rcases hat with e2 | ⟨bb, e2, e3⟩
      · rw [e2] at e; exact hne k hk e
      · have := q_lt hqj k hk
        rw [e2] at e
        injection e with e
        omega
    · rw [flat_snoc]
      rw [show (row ++ [(id, hash)]).length = row.length + 1 by simp]
      exact hq'
  · refine Fr.set ?_ _ _ hr1 h.gr (by simp)
    exact (((Fr.refl base l w).alloc _).drew).grown hg hrowty
end Go.Proofs.Ytggfjnicofgohaa.Sf
