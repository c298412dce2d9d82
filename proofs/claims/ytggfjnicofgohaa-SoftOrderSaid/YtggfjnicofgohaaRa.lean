import Derived.Test.YtggfjnicofgohaaSi
namespace Go.Proofs.Ytggfjnicofgohaa.Sf
open Go.RowKit Blk Go.Proofs.YtggfjnicofgohaaW.PrintWords
set_option linter.unusedVariables false

/-! The reference's object. -/
theorem info52 : (Try.prog.info? 52).map (fun i => (i.zero, i.size, i.bytes)) = some (some (.slice none 0 0), 1, 24) := by kernel_rfl
theorem info72 : (Try.prog.info? 72).map (fun i => (i.zero, i.size, i.bytes)) = some (some (.agg #[.int .u64 0, .int .u32 0]), 2, 16) := by kernel_rfl
def rc (most : Int) (L S O : Value) (last : List Int) : List Value := .int .i64 most :: L :: S :: O :: last.map (Value.int .i64)
theorem rc_last {most : Int} {L S O : Value} {last : List Int} (hk : last.length = 256) (i : Nat) (hi : i < 256) : (rc most L S O last)[4 + i]? = some (.int .i64 (last.getD i 0)) := by
  rw [Nat.add_comm]
  show (last.map (Value.int .i64))[i]? = _
  rw [List.getElem?_map, List.getD_eq_getElem?_getD, List.getElem?_eq_getElem (by omega)]
  rfl
theorem rc_set {most : Int} {L S O : Value} {last : List Int} (i : Nat) (v : Int) : (rc most L S O last).set (4 + i) (.int .i64 v) = rc most L S O (last.set i v) := by
  rw [Nat.add_comm]
  show _ :: _ :: _ :: _ :: (last.map (Value.int .i64)).set i _ = _
  rw [← List.map_set]
  rfl
structure Rf where
  n : Nat
  most : Int
  rows : List (List (Int × Int))
  lost : List Int
  on : List Int
  last : List Int

theorem q_blk {w : World} {base g o n k : Nat} {e : TypeId} {xs : List Value} (h : QRow w base e 1 (.slice (some ⟨g, o, none⟩) n k) n xs) (hn : 0 < n) :
    ∃ cells, Has w g cells e ∧ base ≤ g ∧ n ≤ k ∧ o + k ≤ maxLen ∧ cells.length = o + k ∧ (cells.drop o).take n = xs := by
  rcases h.2 with ⟨h0, _⟩ | ⟨g', off, cap, cur, he, hg, hh, hc, hm, hs, ht⟩
  · omega
  · injection he with ha _ hc'
    injection ha with ha
    injection ha with h1 h2
    subst h1 hc'
    rw [Nat.mul_one] at h2 ht hs
    subst h2
    exact ⟨cur.toList, hh, hg, hc, hm, by simpa using hs, by simpa using ht⟩
theorem q_of_blk {w : World} {base g o n k : Nat} {e : TypeId} {xs cells : List Value} (hh : Has w g cells e) (hg : base ≤ g) (hc : n ≤ k) (hm : o + k ≤ maxLen) (hs : cells.length = o + k) (ht : (cells.drop o).take n = xs) : QRow w base e 1 (.slice (some ⟨g, o, none⟩) n k) n xs := by
  refine ⟨?_, .inr ⟨g, o, k, cells.toArray, by rw [Nat.mul_one], hg, hh, hc, hm, by simpa using hs, by simpa using ht⟩⟩
  rw [← ht, List.length_take, List.length_drop]
  omega
theorem q_cell {w : World} {base g o n k : Nat} {e : TypeId} {xs : List Value} (h : QRow w base e 1 (.slice (some ⟨g, o, none⟩) n k) n xs) (i : Nat) (v : Value) (hv : xs[i]? = some v) : w.cell? ⟨g, o + i, none⟩ = some v ∧ w.frozen? ⟨g, o + i, none⟩ = false := by
  have hl : i < xs.length := (List.getElem?_eq_some_iff.1 hv).1
  have h1 := h.1
  obtain ⟨g', o', ha, _, hc⟩ := q_at h (by omega)
  injection ha with ha
  injection ha with e1 e2
  subst e1 e2
  exact hc i v hv
theorem q_put {w : World} {base g o n k : Nat} {e : TypeId} {xs : List Value} (h : QRow w base e 1 (.slice (some ⟨g, o, none⟩) n k) n xs) (i : Nat) (hi : i < n) (v : Value) : QRow (w.setCell ⟨g, o + i, none⟩ v) base e 1 (.slice (some ⟨g, o, none⟩) n k) n (xs.set i v) := by
  obtain ⟨cells, hh, hg, hc, hm, hs, ht⟩ := q_blk h (by omega)
  refine q_of_blk (hh.set (o + i) v) hg hc hm (by rw [List.length_set]; exact hs) ?_
  rw [List.drop_set, if_neg (by omega), show o + i - o = i by omega, List.take_set, ht]
theorem q_has {w : World} {base g o n k : Nat} {e : TypeId} {xs : List Value} (h : QRow w base e 1 (.slice (some ⟨g, o, none⟩) n k) n xs) (hn : 0 < n) : (∃ cells, Has w g cells e) ∧ base ≤ g := by
  obtain ⟨cells, hh, hg, _⟩ := q_blk h hn
  exact ⟨⟨cells, hh⟩, hg⟩

structure RAt (w : World) (base b r ro rk l lo lk : Nat) (rv : List Value) (O : Value) (s : Rf) : Prop where
  n1 : 1 ≤ s.n
  hb : Has w b (rc s.most (.slice (some ⟨r, ro, none⟩) s.n rk) (.slice (some ⟨l, lo, none⟩) s.n lk) O s.last) 56
  hr : QRow w base 52 1 (.slice (some ⟨r, ro, none⟩) s.n rk) s.n rv
  hl : QRow w base 32 1 (.slice (some ⟨l, lo, none⟩) s.n lk) s.n (s.lost.map (Value.int .u64))
  ho : QRow w base 3 1 O s.on.length (s.on.map (Value.int .i64))
  rowl : s.rows.length = s.n
  q : ∀ (i : Nat) (v : Value) (row : List (Int × Int)), rv[i]? = some v → s.rows[i]? = some row → QRow w base 72 2 v row.length (flat row)
  ne : ∀ (i j : Nat) (v v' : Value), i ≠ j → rv[i]? = some v → rv[j]? = some v' → NeRow v v'
  gb : base ≤ b
  kl : s.last.length = 256
/-- What the reference's methods may turn. -/
structure Ft (base : Nat) (w w' : World) : Prop where
  os : w'.os = w.os
  tape : w'.tape = w.tape
  output : w'.output = w.output
  size : w.heap.size ≤ w'.heap.size
  low : ∀ k, k < base → k < w.heap.size → w'.heap[k]? = w.heap[k]?
  kept : Keeps (fun t => t ≠ 56 ∧ t ≠ 52 ∧ t ≠ 72 ∧ t ≠ 32) w w'
theorem Ft.refl (base : Nat) (w : World) : Ft base w w := ⟨rfl, rfl, rfl, Nat.le_refl _, fun _ _ _ => rfl, Keeps.refl _ _⟩
theorem Ft.trans {base : Nat} {w w1 w2 : World} (h : Ft base w w1) (k : Ft base w1 w2) : Ft base w w2 :=
  ⟨k.os.trans h.os, k.tape.trans h.tape, k.output.trans h.output, Nat.le_trans h.size k.size,
   fun i hi hs => (k.low i hi (Nat.lt_of_lt_of_le hs h.size)).trans (h.low i hi hs), h.kept.trans k.kept⟩
theorem Ft.alloc {base : Nat} {w w1 : World} (h : Ft base w w1) (o : Obj) : Ft base w (w1.alloc o) :=
  h.trans ⟨rfl, rfl, rfl, by rw [alloc_size]; omega, fun k hk hs => by
    show (w1.heap.push o)[k]? = _; rw [Array.getElem?_push]; split <;> first | omega | rfl, (Keeps.refl _ _).alloc o⟩
theorem Ft.drew {base : Nat} {w w1 : World} (h : Ft base w w1) : Ft base w w1.drew := ⟨h.os, h.tape, h.output, h.size, h.low, h.kept⟩
theorem Ft.drewN {base : Nat} {w w1 : World} (h : Ft base w w1) (n : Nat) : Ft base w (w1.drewN n) := ⟨h.os, h.tape, h.output, h.size, h.low, h.kept⟩
theorem Ft.set {base : Nat} {w w1 : World} (h : Ft base w w1) (a : Addr) (v : Value) {c : List Value} {t : TypeId} (hb : Has w1 a.block c t) (hge : base ≤ a.block) (ht : t = 56 ∨ t = 52 ∨ t = 72 ∨ t = 32) : Ft base w (w1.setCell a v) :=
  h.trans ⟨rfl, rfl, rfl, by rw [size_set]; exact Nat.le_refl _, fun k hk hs => heap_set _ _ _ _ (by omega), (Keeps.refl _ _).set _ _ hb (fun x => ht.elim x.1 fun ht => ht.elim x.2.1 fun ht => ht.elim x.2.2.1 fun ht => x.2.2.2 ht)⟩
theorem Ft.grown {base : Nat} {w w1 w2 : World} (h : Ft base w w1) {row : Option Nat} (hg : w1.grownBy w2 row) (hr : ∀ k, row = some k → base ≤ k ∧ ∃ c, w1.heap[k]? = some (.cells c 72 (0, 0))) : Ft base w w2 :=
  h.trans ⟨hg.os, hg.tape, hg.output, hg.size, fun k hk hs => hg.block k hs (fun e => by have := (hr k e.symm).1; omega), (Keeps.refl _ _).grown hg (fun k e => by obtain ⟨_, c, hc⟩ := hr k e; exact ⟨c, 72, hc, fun x => x.2.2.1 rfl⟩)⟩
theorem Ft.below {base : Nat} {w0 w w' : World} (h : Ft base w w') (hb : Below base w0 w) (hs : base ≤ w.heap.size) : Below base w0 w' :=
  hb.trans ⟨h.os, h.tape, h.output, h.size, fun k hk => h.low k hk (by omega)⟩
theorem ft_below {base : Nat} {w w' : World} (h : Below w.heap.size w w') : Ft base w w' :=
  ⟨h.os, h.tape, h.output, h.size, fun k _ hk => h.block k hk, fun k c t _ hc => h.block k (Array.getElem?_eq_some_iff.1 hc).1⟩

section
variable {w : World} {base b r ro rk l lo lk : Nat} {rv : List Value} {O : Value} {s : Rf}
theorem RAt.rvl (h : RAt w base b r ro rk l lo lk rv O s) : rv.length = s.n := by have := h.hr.1; omega
theorem RAt.lostl (h : RAt w base b r ro rk l lo lk rv O s) : s.lost.length = s.n := by have := h.hl.1; rw [List.length_map] at this; omega
theorem RAt.c0 (h : RAt w base b r ro rk l lo lk rv O s) : w.cell? ⟨b, 0, none⟩ = some (.int .i64 s.most) := h.hb.cell rfl
theorem RAt.c1 (h : RAt w base b r ro rk l lo lk rv O s) : w.cell? ⟨b, 1, none⟩ = some (.slice (some ⟨r, ro, none⟩) s.n rk) := h.hb.cell rfl
theorem RAt.c2 (h : RAt w base b r ro rk l lo lk rv O s) : w.cell? ⟨b, 2, none⟩ = some (.slice (some ⟨l, lo, none⟩) s.n lk) := h.hb.cell rfl
theorem RAt.c3 (h : RAt w base b r ro rk l lo lk rv O s) : w.cell? ⟨b, 3, none⟩ = some O := h.hb.cell rfl
theorem RAt.ck (h : RAt w base b r ro rk l lo lk rv O s) (i : Nat) (hi : i < 256) : w.cell? ⟨b, 4 + i, none⟩ = some (.int .i64 (s.last.getD i 0)) := h.hb.cell (rc_last h.kl i hi)
theorem RAt.lc (h : RAt w base b r ro rk l lo lk rv O s) (i : Nat) (hi : i < s.n) : w.cell? ⟨l, lo + i, none⟩ = some (.int .u64 (s.lost.getD i 0)) ∧ w.frozen? ⟨l, lo + i, none⟩ = false := by
  refine q_cell h.hl i _ ?_
  have := h.lostl
  rw [List.getElem?_map, List.getD_eq_getElem?_getD, List.getElem?_eq_getElem (by omega)]
  rfl
theorem RAt.row (h : RAt w base b r ro rk l lo lk rv O s) (i : Nat) (hi : i < s.n) : ∃ A c row, s.rows[i]? = some row ∧ rv[i]? = some (.slice A row.length c) ∧ w.cell? ⟨r, ro + i, none⟩ = some (.slice A row.length c) ∧ w.frozen? ⟨r, ro + i, none⟩ = false ∧ QRow w base 72 2 (.slice A row.length c) row.length (flat row) ∧ row.length ≤ c := by
  have h1 := h.rvl
  have h2 := h.rowl
  have e1 : rv[i]? = some (rv[i]'(by omega)) := List.getElem?_eq_getElem (by omega)
  have e2 : s.rows[i]? = some (s.rows[i]'(by omega)) := List.getElem?_eq_getElem (by omega)
  have hq := h.q i _ _ e1 e2
  obtain ⟨A, c, e3, hc⟩ := q_slice hq
  rw [e3] at hq e1
  have hcl := q_cell h.hr i _ e1
  exact ⟨A, c, _, e2, e1, hcl.1, hcl.2, hq, hc⟩
theorem RAt.move {w' : World} (h : RAt w base b r ro rk l lo lk rv O s) (hk : Keeps (fun t => t = 56 ∨ t = 52 ∨ t = 32 ∨ t = 3 ∨ t = 72) w w') : RAt w' base b r ro rk l lo lk rv O s :=
  ⟨h.n1, hk.has (by decide) h.hb, hk.q (by decide) h.hr, hk.q (by decide) h.hl, hk.q (by decide) h.ho, h.rowl, fun i v row a c => hk.q (by decide) (h.q i v row a c), h.ne, h.gb, h.kl⟩
theorem RAt.lostSet (h : RAt w base b r ro rk l lo lk rv O s) (i : Nat) (hi : i < s.n) (v : Int) : RAt (w.setCell ⟨l, lo + i, none⟩ (.int .u64 v)) base b r ro rk l lo lk rv O { s with lost := s.lost.set i v } := by
  obtain ⟨⟨cells, hc⟩, _⟩ := q_has h.hl h.n1
  have hks : Keeps (fun t => t ≠ 32) w (w.setCell ⟨l, lo + i, none⟩ (.int .u64 v)) := (Keeps.refl _ _).set _ _ hc (by simp)
  refine ⟨h.n1, hks.has (by decide) h.hb, hks.q (by decide) h.hr, ?_, hks.q (by decide) h.ho, h.rowl, fun i v row h1 h2 => hks.q (by decide) (h.q i v row h1 h2), h.ne, h.gb, h.kl⟩
  have := q_put h.hl i hi (.int .u64 v)
  rw [← List.map_set] at this
  exact this
theorem RAt.lastSet (h : RAt w base b r ro rk l lo lk rv O s) (j : Nat) (v : Int) : RAt (w.setCell ⟨b, 4 + j, none⟩ (.int .i64 v)) base b r ro rk l lo lk rv O { s with last := s.last.set j v } := by
  have hks : Keeps (fun t => t ≠ 56) w (w.setCell ⟨b, 4 + j, none⟩ (.int .i64 v)) := (Keeps.refl _ _).set _ _ h.hb (by simp)
  refine ⟨h.n1, ?_, hks.q (by decide) h.hr, hks.q (by decide) h.hl, hks.q (by decide) h.ho, h.rowl, fun i v row h1 h2 => hks.q (by decide) (h.q i v row h1 h2), h.ne, h.gb, by show (s.last.set j v).length = _; rw [List.length_set]; exact h.kl⟩
  have := h.hb.set (4 + j) (.int .i64 v)
  rw [rc_set] at this
  exact this
theorem RAt.onSet (h : RAt w base b r ro rk l lo lk rv O s) (O' : Value) (on' : List Int) (hq : QRow w base 3 1 O' on'.length (on'.map (Value.int .i64))) : RAt (w.setCell ⟨b, 3, none⟩ O') base b r ro rk l lo lk rv O' { s with on := on' } := by
  have hks : Keeps (fun t => t ≠ 56) w (w.setCell ⟨b, 3, none⟩ O') := (Keeps.refl _ _).set _ _ h.hb (by simp)
  exact ⟨h.n1, h.hb.set 3 O', hks.q (by decide) h.hr, hks.q (by decide) h.hl, hks.q (by decide) hq, h.rowl, fun i v row h1 h2 => hks.q (by decide) (h.q i v row h1 h2), h.ne, h.gb, h.kl⟩
theorem RAt.rowSet {w' : World} (h : RAt w base b r ro rk l lo lk rv O s) (i : Nat) (hi : i < s.n) (v' : Value) (row' : List (Int × Int))
    (hk : Keeps (fun t => t = 56 ∨ t = 52 ∨ t = 32 ∨ t = 3) w w')
    (hoth : ∀ (j : Nat) (v : Value) (row : List (Int × Int)), j ≠ i → rv[j]? = some v → s.rows[j]? = some row → QRow w' base 72 2 v row.length (flat row) ∧ NeRow v v')
    (hq : QRow w' base 72 2 v' row'.length (flat row')) : RAt (w'.setCell ⟨r, ro + i, none⟩ v') base b r ro rk l lo lk (rv.set i v') O { s with rows := s.rows.set i row' } := by
  have hr := hk.q (by decide) h.hr
  obtain ⟨⟨cells, hc⟩, _⟩ := q_has hr h.n1
  have hks : Keeps (fun t => t ≠ 52) w' (w'.setCell ⟨r, ro + i, none⟩ v') := (Keeps.refl _ _).set _ _ hc (by simp)
  have rvl := h.rvl
  have rowl := h.rowl
  refine ⟨h.n1, hks.has (by decide) (hk.has (by decide) h.hb), q_put hr i hi v', hks.q (by decide) (hk.q (by decide) h.hl), hks.q (by decide) (hk.q (by decide) h.ho), by show (s.rows.set i row').length = _; rw [List.length_set]; exact h.rowl, ?_, ?_, h.gb, h.kl⟩
  · intro j v row hv hrow
    by_cases e : j = i
    · subst e
      rw [List.getElem?_set_self (by omega)] at hv
      rw [show (({ s with rows := s.rows.set j row' } : Rf).rows)[j]? = (s.rows.set j row')[j]? from rfl, List.getElem?_set_self (by omega)] at hrow
      injection hv with hv
      injection hrow with hrow
      subst hv hrow
      exact hks.q (by decide) hq
    · rw [List.getElem?_set_ne (Ne.symm e)] at hv
      rw [show (({ s with rows := s.rows.set i row' } : Rf).rows)[j]? = (s.rows.set i row')[j]? from rfl, List.getElem?_set_ne (Ne.symm e)] at hrow
      exact hks.q (by decide) (hoth j v row e hv hrow).1
  · intro j k v u hjk hv hu
    have hrows : ∀ (j : Nat) (v : Value), j ≠ i → rv[j]? = some v → NeRow v v' := by
      intro j v hj hv
      have hjl : j < rv.length := (List.getElem?_eq_some_iff.1 hv).1
      exact (hoth j v _ hj hv (List.getElem?_eq_getElem (show j < s.rows.length by omega))).2
    by_cases e : j = i
    · subst e
      rw [List.getElem?_set_self (by omega)] at hv
      injection hv with hv
      subst hv
      rw [List.getElem?_set_ne hjk] at hu
      exact ne_symm (hrows k u (Ne.symm hjk) hu)
    · rw [List.getElem?_set_ne (Ne.symm e)] at hv
      by_cases e2 : k = i
      · subst e2
        rw [List.getElem?_set_self (by omega)] at hu
        injection hu with hu
        subst hu
        exact hrows j v e hv
      · rw [List.getElem?_set_ne (Ne.symm e2)] at hu
        exact h.ne j k v u hjk hv hu
end

/-- One buffer more, last in a backlog of the reference. -/
theorem r_put_row {w : World} {base b r ro rk l lo lk : Nat} {rv : List Value} {O : Value} {s : Rf} (h : RAt w base b r ro rk l lo lk rv O s) (i : Nat) (hi : i < s.n) (A : Option Addr) (c : Nat) (row : List (Int × Int)) (hrow : s.rows[i]? = some row) (hv : rv[i]? = some (.slice A row.length c)) (hl : row.length ≤ 256) (id hash : Int) (hbase : base ≤ w.heap.size) :
    ∃ A' c' w1, (Builtin.append_ #[52, 52] 52 #[.slice A row.length c, .slice (some ⟨w.heap.size, 0, none⟩) 1 1]).run Try.prog (w.alloc (.cells #[.int .u64 id, .int .u32 hash] 72)).drew = .ok (.slice A' (row.length + 1) c') w1 ∧
      w1.cell? ⟨b, 1, none⟩ = some (.slice (some ⟨r, ro, none⟩) s.n rk) ∧ w1.cell? ⟨r, ro + i, none⟩ = some (.slice A row.length c) ∧ w1.frozen? ⟨r, ro + i, none⟩ = false ∧
      RAt (w1.setCell ⟨r, ro + i, none⟩ (.slice A' (row.length + 1) c')) base b r ro rk l lo lk (rv.set i (.slice A' (row.length + 1) c')) O { s with rows := s.rows.set i (row ++ [(id, hash)]) } ∧ Ft base w (w1.setCell ⟨r, ro + i, none⟩ (.slice A' (row.length + 1) c')) := by
  obtain ⟨i0, hi0, hz0, hz1, hz2⟩ := info_parts info72
  have hq0 := h.q i _ _ hv hrow
  have hk0 : Keeps (fun _ => True) w (w.alloc (.cells #[.int .u64 id, .int .u32 hash] 72)).drew := ((Keeps.refl _ w).alloc _).drew
  have hq := hk0.q trivial hq0
  obtain ⟨v', w1, hrun, hq', hg, hat⟩ := q_append (P := Try.prog) (w.alloc (.cells #[.int .u64 id, .int .u32 hash] 72)).drew base 52 52 72 i0 (.agg #[.int .u64 0, .int .u32 0]) 2 16 Try.underlying52 hi0 hz0 hz1 hz2 rfl (by decide) _ _ _ hq ⟨w.heap.size, 0, none⟩ 1 1 [.int .u64 id, .int .u32 hash] rfl
    (fun j u hu => by
      rw [add_at]
      match j, hu with
      | 0, hu => simp only [List.getElem?_cons_zero, Option.some.injEq] at hu; subst hu; exact (Has.new w [.int .u64 id, .int .u32 hash] 72).cell rfl
      | 1, hu => simp only [List.getElem?_cons_succ, List.getElem?_cons_zero, Option.some.injEq] at hu; subst hu; exact (Has.new w [.int .u64 id, .int .u32 hash] 72).cell rfl
      | j + 2, hu => simp at hu)
    (fun u hu => by simp at hu; rcases hu with rfl | rfl <;> rfl) (by decide) (by unfold maxLen; omega) (by omega) (by show base ≤ (w.alloc _).heap.size; rw [alloc_size]; omega)
  obtain ⟨A', c', rfl, _⟩ := q_slice hq'
  have hrowty : ∀ k, (Value.slice A row.length c).ownBlock = some k → base ≤ k ∧ ∃ d, (w.alloc (.cells #[.int .u64 id, .int .u32 hash] 72)).drew.heap[k]? = some (.cells d 72 (0, 0)) := fun k hk => q_typed hq k hk
  have hkp : Keeps (fun t => t ≠ 72) w w1 := ((((Keeps.refl _ w).alloc _).drew).grown hg fun k hk => by
    obtain ⟨_, d, hd⟩ := hrowty k hk
    exact ⟨d, 72, hd, by simp⟩)
  have hb1 := hkp.has (by decide) h.hb
  have hr1 := hkp.q (by decide) h.hr
  have hcl := q_cell hr1 i _ hv
  obtain ⟨⟨cells, hcs⟩, hge⟩ := q_has hr1 h.n1
  refine ⟨A', c', w1, hrun, hb1.cell rfl, hcl.1, hcl.2, ?_, ?_⟩
  · refine h.rowSet i hi _ _ (hkp.mono (fun t ht => by rcases ht with e | e | e | e <;> (rw [e]; decide))) ?_ ?_
    · intro j v rw_ hj hvj hrj
      have hqj := hk0.q trivial (h.q j v rw_ hvj hrj)
      have hne := h.ne j i v _ hj hvj hv
      refine ⟨q_move hqj fun k hk => hg.block k (q_lt hqj k hk) (fun e => hne k hk e.symm), ?_⟩
      intro k hk e
      rcases hat with e2 | ⟨bb, e2, e3⟩
      · rw [e2] at e; exact hne k hk e
      · have := q_lt hqj k hk
        rw [e2] at e
        injection e with e
        omega
    · rw [flat_snoc]
      rw [show (row ++ [(id, hash)]).length = row.length + 1 by simp]
      exact hq'
  · refine Ft.set ?_ _ _ hcs hge (by simp)
    exact (((Ft.refl base w).alloc _).drew).grown hg hrowty
end Go.Proofs.Ytggfjnicofgohaa.Sf
