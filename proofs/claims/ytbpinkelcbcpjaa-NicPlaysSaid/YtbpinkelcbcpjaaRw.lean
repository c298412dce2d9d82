import Derived.Test.YtbpinkelcbcpjaaRr
namespace Go.Proofs.Ytbpinkelcbcpjaa.Ni
open Go.RowKit Blk Go.Proofs.YtbpinkelcbcpjaaW.PrintWords
set_option linter.unusedVariables false

/-- The reference's object while it is made: k queues, j entries of the table. -/
structure Gs (w : World) (base b size n k j : Nat) (AT : Option Addr) (cT : Nat) (AI : Option Addr) (cI : Nat) (AO : Option Addr) (cO : Nat) (AA : Option Addr) (cA : Nat) : Prop where
  hb : Has w b [.int .i64 size, .slice AT j cT, .slice AI k cI, .slice AO k cO, .slice AA k cA, .int .u64 0, .int .u64 0] 44
  hT : QRow w base 3 1 (.slice AT j cT) j (((List.range j).map fun i => ((i % n : Nat) : Int)).map (Value.int .i64))
  hI : QRow w base 38 1 (.slice AI k cI) k (List.replicate k (.slice none 0 0))
  hO : QRow w base 45 1 (.slice AO k cO) k (List.replicate k (.slice none 0 0))
  hA : QRow w base 4 1 (.slice AA k cA) k (List.replicate k (.bool true))
  gb : base ≤ b
  bz : base ≤ w.heap.size
theorem Gs.still {w w' : World} {base b size n k j : Nat} {AT AI AO AA : Option Addr} {cT cI cO cA : Nat} (h : Gs w base b size n k j AT cT AI cI AO cO AA cA) (hc : Ch nob w w') : Gs w' base b size n k j AT cT AI cI AO cO AA cA :=
  have hk : Keeps (fun _ => True) w w' := Keeps.ofNone hc
  ⟨hk.has trivial h.hb, hk.q trivial h.hT, hk.q trivial h.hI, hk.q trivial h.hO, hk.q trivial h.hA, h.gb, Nat.le_trans h.bz hc.size⟩

theorem gs_in {w : World} {base b size n k j : Nat} {AT AI AO AA : Option Addr} {cT cI cO cA : Nat} (h : Gs w base b size n k j AT cT AI cI AO cO AA cA) (hk : k ≤ 1000) :
    ∃ A' c' w1, (Builtin.append_ #[39, 39] 39 #[.slice AI k cI, .slice (some ⟨w.heap.size, 0, none⟩) 1 1]).run Try.prog (w.alloc (.cells #[.slice none 0 0] 38)) = .ok (.slice A' (k + 1) c') w1 ∧
      w1.cell? ⟨b, 2, none⟩ = some (.slice AI k cI) ∧ w1.frozen? ⟨b, 2, none⟩ = false ∧ Has (w1.setCell ⟨b, 2, none⟩ (.slice A' (k + 1) c')) b [.int .i64 size, .slice AT j cT, .slice A' (k + 1) c', .slice AO k cO, .slice AA k cA, .int .u64 0, .int .u64 0] 44 ∧
      QRow (w1.setCell ⟨b, 2, none⟩ (.slice A' (k + 1) c')) base 38 1 (.slice A' (k + 1) c') (k + 1) (List.replicate k (.slice none 0 0) ++ [.slice none 0 0]) ∧ Keeps (fun t => t ≠ 38 ∧ t ≠ 44) w (w1.setCell ⟨b, 2, none⟩ (.slice A' (k + 1) c')) ∧ Below base w (w1.setCell ⟨b, 2, none⟩ (.slice A' (k + 1) c')) := by
  obtain ⟨i0, hi0, hz0, hz1, hz2⟩ := info_parts info38
  have hn0 : Ch nob w (w.alloc (.cells #[.slice none 0 0] 38)) := (Ch.refl nob w).alloc _
  have hq : QRow (w.alloc (.cells #[.slice none 0 0] 38)) base 38 1 (.slice AI k cI) k (List.replicate k (.slice none 0 0)) := (Keeps.ofNone (T := fun _ => True) hn0).q trivial h.hI
  have hbz := h.bz
  obtain ⟨v', w1, hrun, hq', hg, hat⟩ := q_append (P := Try.prog) (w.alloc (.cells #[.slice none 0 0] 38)) base 39 39 38 i0 (.slice none 0 0) 1 24 Try.underlying39 hi0 hz0 hz1 hz2 rfl (by decide) _ _ _ hq ⟨w.heap.size, 0, none⟩ 1 1 [.slice none 0 0] rfl
    (fun a u hu => by
      match a, hu with
      | 0, hu =>
        simp only [List.getElem?_cons_zero, Option.some.injEq] at hu
        subst hu
        rw [add_at]
        exact (Has.new w [.slice none 0 0] 38).cell rfl
      | a + 1, hu => simp at hu)
    (fun u hu => by simp at hu; subst hu; rfl) (by decide) (by unfold maxLen; omega) (by omega) (by show base ≤ (w.alloc _).heap.size; rw [alloc_size]; omega)
  obtain ⟨A', c', rfl, _⟩ := q_slice hq'
  have hk1 : Keeps (fun t => t ≠ 38) w w1 := (Keeps.ofNone hn0).grown hg fun a e => by
    obtain ⟨_, cc, hcc⟩ := q_typed hq a e
    exact ⟨cc, 38, hcc, by simp⟩
  have hB1 : Below base w w1 := (hn0.below base hbz fun _ _ => id).trans ⟨hg.os, hg.tape, hg.output, hg.size, fun a ha => hg.block a (by show a < (w.alloc _).heap.size; rw [alloc_size]; omega) fun e => by
    have := (q_typed hq a e.symm).1
    omega⟩
  have hb1 := hk1.has (by decide) h.hb
  exact ⟨A', c', w1, hrun, hb1.cell rfl, hb1.free 2, hb1.set 2 _, ((Keeps.refl (fun t => t = 38) w1).set ⟨b, 2, none⟩ _ hb1 (by decide)).q rfl hq', (hk1.mono fun t ht => ht.1).set ⟨b, 2, none⟩ _ hb1 (fun ht => ht.2 rfl), Below.setCell hB1 h.gb _⟩

theorem gs_out {w : World} {base b k : Nat} {A : Option Addr} {c : Nat} {i0 T0 I0 A0 x5 x6 : Value}
    (hb : Has w b [i0, T0, I0, .slice A k c, A0, x5, x6] 44) (hq0 : QRow w base 45 1 (.slice A k c) k (List.replicate k (.slice none 0 0))) (gb : base ≤ b) (hbz : base ≤ w.heap.size) (hk : k ≤ 1000) :
    ∃ A' c' w1, (Builtin.append_ #[40, 40] 40 #[.slice A k c, .slice (some ⟨w.heap.size, 0, none⟩) 1 1]).run Try.prog (w.alloc (.cells #[.slice none 0 0] 45)) = .ok (.slice A' (k + 1) c') w1 ∧
      w1.cell? ⟨b, 3, none⟩ = some (.slice A k c) ∧ w1.frozen? ⟨b, 3, none⟩ = false ∧ Has (w1.setCell ⟨b, 3, none⟩ (.slice A' (k + 1) c')) b [i0, T0, I0, .slice A' (k + 1) c', A0, x5, x6] 44 ∧
      QRow (w1.setCell ⟨b, 3, none⟩ (.slice A' (k + 1) c')) base 45 1 (.slice A' (k + 1) c') (k + 1) (List.replicate k (.slice none 0 0) ++ [.slice none 0 0]) ∧ Keeps (fun t => t ≠ 45 ∧ t ≠ 44) w (w1.setCell ⟨b, 3, none⟩ (.slice A' (k + 1) c')) ∧ Below base w (w1.setCell ⟨b, 3, none⟩ (.slice A' (k + 1) c')) := by
  obtain ⟨i0, hi0, hz0, hz1, hz2⟩ := info_parts info45
  have hn0 : Ch nob w (w.alloc (.cells #[.slice none 0 0] 45)) := (Ch.refl nob w).alloc _
  have hq : QRow (w.alloc (.cells #[.slice none 0 0] 45)) base 45 1 (.slice A k c) k (List.replicate k (.slice none 0 0)) := (Keeps.ofNone (T := fun _ => True) hn0).q trivial hq0
  obtain ⟨v', w1, hrun, hq', hg, hat⟩ := q_append (P := Try.prog) (w.alloc (.cells #[.slice none 0 0] 45)) base 40 40 45 i0 (.slice none 0 0) 1 24 Try.underlying40 hi0 hz0 hz1 hz2 rfl (by decide) _ _ _ hq ⟨w.heap.size, 0, none⟩ 1 1 [.slice none 0 0] rfl
    (fun a u hu => by
      match a, hu with
      | 0, hu =>
        simp only [List.getElem?_cons_zero, Option.some.injEq] at hu
        subst hu
        rw [add_at]
        exact (Has.new w [.slice none 0 0] 45).cell rfl
      | a + 1, hu => simp at hu)
    (fun u hu => by simp at hu; subst hu; rfl) (by decide) (by unfold maxLen; omega) (by omega) (by show base ≤ (w.alloc _).heap.size; rw [alloc_size]; omega)
  obtain ⟨A', c', rfl, _⟩ := q_slice hq'
  have hk1 : Keeps (fun t => t ≠ 45) w w1 := (Keeps.ofNone hn0).grown hg fun a e => by
    obtain ⟨_, cc, hcc⟩ := q_typed hq a e
    exact ⟨cc, 45, hcc, by simp⟩
  have hB1 : Below base w w1 := (hn0.below base hbz fun _ _ => id).trans ⟨hg.os, hg.tape, hg.output, hg.size, fun a ha => hg.block a (by show a < (w.alloc _).heap.size; rw [alloc_size]; omega) fun e => by
    have := (q_typed hq a e.symm).1
    omega⟩
  have hb1 := hk1.has (by decide) hb
  exact ⟨A', c', w1, hrun, hb1.cell rfl, hb1.free 3, hb1.set 3 _, ((Keeps.refl (fun t => t = 45) w1).set ⟨b, 3, none⟩ _ hb1 (by decide)).q rfl hq', (hk1.mono fun t ht => ht.1).set ⟨b, 3, none⟩ _ hb1 (fun ht => ht.2 rfl), Below.setCell hB1 gb _⟩

theorem gs_arm {w : World} {base b k : Nat} {A : Option Addr} {c : Nat} {i0 T0 I0 O0 x5 x6 : Value}
    (hb : Has w b [i0, T0, I0, O0, .slice A k c, x5, x6] 44) (hq0 : QRow w base 4 1 (.slice A k c) k (List.replicate k (.bool true))) (gb : base ≤ b) (hbz : base ≤ w.heap.size) (hk : k ≤ 1000) :
    ∃ A' c' w1, (Builtin.append_ #[41, 41] 41 #[.slice A k c, .slice (some ⟨w.heap.size, 0, none⟩) 1 1]).run Try.prog (w.alloc (.cells #[.bool true] 4)) = .ok (.slice A' (k + 1) c') w1 ∧
      w1.cell? ⟨b, 4, none⟩ = some (.slice A k c) ∧ w1.frozen? ⟨b, 4, none⟩ = false ∧ Has (w1.setCell ⟨b, 4, none⟩ (.slice A' (k + 1) c')) b [i0, T0, I0, O0, .slice A' (k + 1) c', x5, x6] 44 ∧
      QRow (w1.setCell ⟨b, 4, none⟩ (.slice A' (k + 1) c')) base 4 1 (.slice A' (k + 1) c') (k + 1) (List.replicate k (.bool true) ++ [.bool true]) ∧ Keeps (fun t => t ≠ 4 ∧ t ≠ 44) w (w1.setCell ⟨b, 4, none⟩ (.slice A' (k + 1) c')) ∧ Below base w (w1.setCell ⟨b, 4, none⟩ (.slice A' (k + 1) c')) := by
  obtain ⟨i0, hi0, hz0, hz1, hz2⟩ := info_parts info4
  have hn0 : Ch nob w (w.alloc (.cells #[.bool true] 4)) := (Ch.refl nob w).alloc _
  have hq : QRow (w.alloc (.cells #[.bool true] 4)) base 4 1 (.slice A k c) k (List.replicate k (.bool true)) := (Keeps.ofNone (T := fun _ => True) hn0).q trivial hq0
  obtain ⟨v', w1, hrun, hq', hg, hat⟩ := q_append (P := Try.prog) (w.alloc (.cells #[.bool true] 4)) base 41 41 4 i0 (.bool false) 1 1 Try.underlying41 hi0 hz0 hz1 hz2 rfl (by decide) _ _ _ hq ⟨w.heap.size, 0, none⟩ 1 1 [.bool true] rfl
    (fun a u hu => by
      match a, hu with
      | 0, hu =>
        simp only [List.getElem?_cons_zero, Option.some.injEq] at hu
        subst hu
        rw [add_at]
        exact (Has.new w [.bool true] 4).cell rfl
      | a + 1, hu => simp at hu)
    (fun u hu => by simp at hu; subst hu; rfl) (by decide) (by unfold maxLen; omega) (by omega) (by show base ≤ (w.alloc _).heap.size; rw [alloc_size]; omega)
  obtain ⟨A', c', rfl, _⟩ := q_slice hq'
  have hk1 : Keeps (fun t => t ≠ 4) w w1 := (Keeps.ofNone hn0).grown hg fun a e => by
    obtain ⟨_, cc, hcc⟩ := q_typed hq a e
    exact ⟨cc, 4, hcc, by simp⟩
  have hB1 : Below base w w1 := (hn0.below base hbz fun _ _ => id).trans ⟨hg.os, hg.tape, hg.output, hg.size, fun a ha => hg.block a (by show a < (w.alloc _).heap.size; rw [alloc_size]; omega) fun e => by
    have := (q_typed hq a e.symm).1
    omega⟩
  have hb1 := hk1.has (by decide) hb
  exact ⟨A', c', w1, hrun, hb1.cell rfl, hb1.free 4, hb1.set 4 _, ((Keeps.refl (fun t => t = 4) w1).set ⟨b, 4, none⟩ _ hb1 (by decide)).q rfl hq', (hk1.mono fun t ht => ht.1).set ⟨b, 4, none⟩ _ hb1 (fun ht => ht.2 rfl), Below.setCell hB1 gb _⟩

/-- Three appends in a row: a queue more. -/
theorem gs_step {w : World} {base b size n k j : Nat} {AT AI AO AA : Option Addr} {cT cI cO cA : Nat} (h : Gs w base b size n k j AT cT AI cI AO cO AA cA) (hk : k ≤ 1000) :
    ∃ A1 c1 w1 W1 A2 c2 w2 W2 A3 c3 w3 W3,
      ((Builtin.append_ #[39, 39] 39 #[.slice AI k cI, .slice (some ⟨w.heap.size, 0, none⟩) 1 1]).run Try.prog (w.alloc (.cells #[.slice none 0 0] 38)) = .ok (.slice A1 (k + 1) c1) w1 ∧ w1.cell? ⟨b, 2, none⟩ = some (.slice AI k cI) ∧ w1.frozen? ⟨b, 2, none⟩ = false ∧ W1 = w1.setCell ⟨b, 2, none⟩ (.slice A1 (k + 1) c1)) ∧
      (W1.cell? ⟨b, 3, none⟩ = some (.slice AO k cO) ∧ b < W1.heap.size ∧ (Builtin.append_ #[40, 40] 40 #[.slice AO k cO, .slice (some ⟨W1.heap.size, 0, none⟩) 1 1]).run Try.prog (W1.alloc (.cells #[.slice none 0 0] 45)) = .ok (.slice A2 (k + 1) c2) w2 ∧ w2.cell? ⟨b, 3, none⟩ = some (.slice AO k cO) ∧ w2.frozen? ⟨b, 3, none⟩ = false ∧ W2 = w2.setCell ⟨b, 3, none⟩ (.slice A2 (k + 1) c2)) ∧
      (W2.cell? ⟨b, 4, none⟩ = some (.slice AA k cA) ∧ b < W2.heap.size ∧ (Builtin.append_ #[41, 41] 41 #[.slice AA k cA, .slice (some ⟨W2.heap.size, 0, none⟩) 1 1]).run Try.prog (W2.alloc (.cells #[.bool true] 4)) = .ok (.slice A3 (k + 1) c3) w3 ∧ w3.cell? ⟨b, 4, none⟩ = some (.slice AA k cA) ∧ w3.frozen? ⟨b, 4, none⟩ = false ∧ W3 = w3.setCell ⟨b, 4, none⟩ (.slice A3 (k + 1) c3)) ∧
      Gs W3 base b size n (k + 1) j AT cT A1 c1 A2 c2 A3 c3 ∧ Below base w W3 := by
  obtain ⟨A1, c1, w1, run1, x1, f1, hb1, q1, k1, B1⟩ := gs_in h hk
  obtain ⟨W1, hW1⟩ : ∃ W1, W1 = w1.setCell ⟨b, 2, none⟩ (.slice A1 (k + 1) c1) := ⟨_, rfl⟩
  rw [← hW1] at hb1 q1 k1 B1
  obtain ⟨A2, c2, w2, run2, x2, f2, hb2, q2, k2, B2⟩ := gs_out hb1 (k1.q (by decide) h.hO) h.gb (Nat.le_trans h.bz B1.size) hk
  obtain ⟨W2, hW2⟩ : ∃ W2, W2 = w2.setCell ⟨b, 3, none⟩ (.slice A2 (k + 1) c2) := ⟨_, rfl⟩
  rw [← hW2] at hb2 q2 k2 B2
  obtain ⟨A3, c3, w3, run3, x3, f3, hb3, q3, k3, B3⟩ := gs_arm hb2 (k2.q (by decide) (k1.q (by decide) h.hA)) h.gb (Nat.le_trans (Nat.le_trans h.bz B1.size) B2.size) hk
  refine ⟨A1, c1, w1, W1, A2, c2, w2, W2, A3, c3, w3, _, ⟨run1, x1, f1, hW1⟩, ⟨hb1.cell rfl, hb1.lt, run2, x2, f2, hW2⟩, ⟨hb2.cell rfl, hb2.lt, run3, x3, f3, rfl⟩, ⟨hb3, k3.q (by decide) (k2.q (by decide) (k1.q (by decide) h.hT)), ?_, ?_, ?_, h.gb, Nat.le_trans (Nat.le_trans (Nat.le_trans h.bz B1.size) B2.size) B3.size⟩, (B1.trans B2).trans B3⟩
  · rw [List.replicate_succ']
    exact k3.q (by decide) (k2.q (by decide) q1)
  · rw [List.replicate_succ']
    exact k3.q (by decide) q2
  · rw [List.replicate_succ']
    exact q3

theorem gs_tab {w : World} {base b size n k j : Nat} {AT AI AO AA : Option Addr} {cT cI cO cA : Nat} (h : Gs w base b size n k j AT cT AI cI AO cO AA cA) (hk : j ≤ 1000) :
    ∃ A' c' w1, (Builtin.append_ #[35, 35] 35 #[.slice AT j cT, .slice (some ⟨w.heap.size, 0, none⟩) 1 1]).run Try.prog ((w.alloc (.cells #[.int .i64 ((j % n : Nat) : Int)] 3)).drew) = .ok (.slice A' (j + 1) c') w1 ∧
      w1.cell? ⟨b, 1, none⟩ = some (.slice AT j cT) ∧ w1.frozen? ⟨b, 1, none⟩ = false ∧ Has (w1.setCell ⟨b, 1, none⟩ (.slice A' (j + 1) c')) b [.int .i64 size, .slice A' (j + 1) c', .slice AI k cI, .slice AO k cO, .slice AA k cA, .int .u64 0, .int .u64 0] 44 ∧
      QRow (w1.setCell ⟨b, 1, none⟩ (.slice A' (j + 1) c')) base 3 1 (.slice A' (j + 1) c') (j + 1) (((List.range j).map fun i => ((i % n : Nat) : Int)).map (Value.int .i64) ++ [.int .i64 ((j % n : Nat) : Int)]) ∧ Keeps (fun t => t ≠ 3 ∧ t ≠ 44) w (w1.setCell ⟨b, 1, none⟩ (.slice A' (j + 1) c')) ∧ Below base w (w1.setCell ⟨b, 1, none⟩ (.slice A' (j + 1) c')) := by
  obtain ⟨i0, hi0, hz0, hz1, hz2⟩ := info_parts info3
  have hn0 : Ch nob w ((w.alloc (.cells #[.int .i64 ((j % n : Nat) : Int)] 3)).drew) := ((Ch.refl nob w).alloc _).drew
  have hq : QRow ((w.alloc (.cells #[.int .i64 ((j % n : Nat) : Int)] 3)).drew) base 3 1 (.slice AT j cT) j (((List.range j).map fun i => ((i % n : Nat) : Int)).map (Value.int .i64)) := (Keeps.ofNone (T := fun _ => True) hn0).q trivial h.hT
  have hbz := h.bz
  obtain ⟨v', w1, hrun, hq', hg, hat⟩ := q_append (P := Try.prog) ((w.alloc (.cells #[.int .i64 ((j % n : Nat) : Int)] 3)).drew) base 35 35 3 i0 (.int .i64 0) 1 8 Try.underlying35 hi0 hz0 hz1 hz2 rfl (by decide) _ _ _ hq ⟨w.heap.size, 0, none⟩ 1 1 [.int .i64 ((j % n : Nat) : Int)] rfl
    (fun a u hu => by
      match a, hu with
      | 0, hu =>
        simp only [List.getElem?_cons_zero, Option.some.injEq] at hu
        subst hu
        rw [add_at]
        exact (Has.new w [.int .i64 ((j % n : Nat) : Int)] 3).cell rfl
      | a + 1, hu => simp at hu)
    (fun u hu => by simp at hu; subst hu; rfl) (by decide) (by unfold maxLen; omega) (by omega) (by show base ≤ (w.alloc _).heap.size; rw [alloc_size]; omega)
  obtain ⟨A', c', rfl, _⟩ := q_slice hq'
  have hk1 : Keeps (fun t => t ≠ 3) w w1 := (Keeps.ofNone hn0).grown hg fun a e => by
    obtain ⟨_, cc, hcc⟩ := q_typed hq a e
    exact ⟨cc, 3, hcc, by simp⟩
  have hB1 : Below base w w1 := (hn0.below base hbz fun _ _ => id).trans ⟨hg.os, hg.tape, hg.output, hg.size, fun a ha => hg.block a (by show a < (w.alloc _).heap.size; rw [alloc_size]; omega) fun e => by
    have := (q_typed hq a e.symm).1
    omega⟩
  have hb1 := hk1.has (by decide) h.hb
  exact ⟨A', c', w1, hrun, hb1.cell rfl, hb1.free 1, hb1.set 1 _, ((Keeps.refl (fun t => t = 3) w1).set ⟨b, 1, none⟩ _ hb1 (by decide)).q rfl hq', (hk1.mono fun t ht => ht.1).set ⟨b, 1, none⟩ _ hb1 (fun ht => ht.2 rfl), Below.setCell hB1 h.gb _⟩

theorem gs_tstep {w : World} {base b size n k j : Nat} {AT AI AO AA : Option Addr} {cT cI cO cA : Nat} (h : Gs w base b size n k j AT cT AI cI AO cO AA cA) (hj : j ≤ 1000) :
    ∃ A' c' w1, (Builtin.append_ #[35, 35] 35 #[.slice AT j cT, .slice (some ⟨w.heap.size, 0, none⟩) 1 1]).run Try.prog ((w.alloc (.cells #[.int .i64 ((j % n : Nat) : Int)] 3)).drew) = .ok (.slice A' (j + 1) c') w1 ∧
      w1.cell? ⟨b, 1, none⟩ = some (.slice AT j cT) ∧ w1.frozen? ⟨b, 1, none⟩ = false ∧ Gs (w1.setCell ⟨b, 1, none⟩ (.slice A' (j + 1) c')) base b size n k (j + 1) A' c' AI cI AO cO AA cA ∧ Below base w (w1.setCell ⟨b, 1, none⟩ (.slice A' (j + 1) c')) := by
  obtain ⟨A', c', w1, run, x1, f1, hb1, q1, k1, B1⟩ := gs_tab h hj
  refine ⟨A', c', w1, run, x1, f1, ⟨hb1, ?_, k1.q (by decide) h.hI, k1.q (by decide) h.hO, k1.q (by decide) h.hA, h.gb, Nat.le_trans h.bz B1.size⟩, B1⟩
  rw [List.range_succ, List.map_append, List.map_append]
  exact q1
def rfresh (n size : Nat) : Rf := ⟨size, (List.range 128).map fun i => ((i % n : Nat) : Int), List.replicate n [], List.replicate n [], List.replicate n true, 0, 0⟩
theorem gs_done {w : World} {base b size n : Nat} {AT AI AO AA : Option Addr} {cT cI cO cA : Nat} (h : Gs w base b size n n 128 AT cT AI cI AO cO AA cA) (hn : 1 ≤ n ∧ n ≤ 8) : Re w base b (rfresh n size) := by
  obtain ⟨ib, io, rfl, _, _⟩ := q_at h.hI (by omega)
  obtain ⟨ob, oo, rfl, _, _⟩ := q_at h.hO (by omega)
  obtain ⟨ab, ao, rfl, _, _⟩ := q_at h.hA (by omega)
  have hl : (rfresh n size).ins.length = n := List.length_replicate ..
  have hnil : ∀ {α : Type} (e : TypeId) (s : Nat) (f : List α → List Value), f [] = [] → Rws w base e s f (List.replicate n (.slice none 0 0)) (List.replicate n ([] : List α)) := fun e s f hf => by
    refine ⟨fun i v l hv hll => ?_, fun i j v v' _ hv hv' => ?_, by simp⟩
    · obtain rfl := List.eq_of_mem_replicate (List.mem_of_getElem? hv)
      obtain rfl := List.eq_of_mem_replicate (List.mem_of_getElem? hll)
      rw [hf]
      exact q_none _ _ _ _
    · obtain rfl := List.eq_of_mem_replicate (List.mem_of_getElem? hv)
      intro k hk
      simp [Value.ownBlock] at hk
  refine ⟨⟨.slice AT 128 cT, ib, io, cI, ob, oo, cO, ab, ao, cA, List.replicate n (.slice none 0 0), List.replicate n (.slice none 0 0)⟩, ⟨?_, h.hT, ?_, ?_, ?_, hnil 53 2 flat rfl, hnil 9 1 strs rfl, ?_, ?_, ?_, ?_, h.gb⟩⟩
  · have := h.hb
    unfold rc
    rw [hl]
    exact this
  · rw [hl]; exact h.hI
  · rw [hl]; exact h.hO
  · rw [hl]
    show QRow w base 4 1 _ n ((List.replicate n true).map Value.bool)
    rw [List.map_replicate]
    exact h.hA
  · rw [hl]; exact List.length_replicate ..
  · rw [hl]; exact List.length_replicate ..
  · rw [hl]; exact hn.1
  · rw [hl]; exact hn.2
set_option maxHeartbeats 8000000 in
set_option maxRecDepth 100000 in
theorem r_new (n size : Nat) (w : World) (hn : 1 ≤ n ∧ n ≤ 8) (hs : size ≤ 256) :
    Calls Try.prog 11 #[.int .i64 n, .int .i64 size] w fun e w' => e = .returned (.pointer (some ⟨w.heap.size, 0, none⟩)) ∧ Re w' w.heap.size w.heap.size (rfresh n size) ∧ Below w.heap.size w w' := by
  obtain ⟨hn1, hn8⟩ := id hn
  go_enter Try.func11, Try.ntmps11
  go_wp2
  have HG : Hid (Gs (w.alloc (.cells #[.int .i64 size, .slice none 0 0, .slice none 0 0, .slice none 0 0, .slice none 0 0, .int .u64 0, .int .u64 0] 44)) w.heap.size w.heap.size size n 0 0 none 0 none 0 none 0 none 0) :=
    Lib.hid ⟨Has.new w [.int .i64 size, .slice none 0 0, .slice none 0 0, .slice none 0 0, .slice none 0 0, .int .u64 0, .int .u64 0] 44, q_none _ _ _ _, q_none _ _ _ _, q_none _ _ _ _, q_none _ _ _ _, Nat.le_refl _, by rw [alloc_size]; omega⟩
  have HB := Lib.hid ((Below.refl w.heap.size w).alloc (Nat.le_refl _) (.cells #[.int .i64 size, .slice none 0 0, .slice none 0 0, .slice none 0 0, .slice none 0 0, .int .u64 0, .int .u64 0] 44))
  obtain ⟨b, hb⟩ : ∃ b, b = w.heap.size := ⟨_, rfl⟩
  rw [← hb] at HG HB ⊢
  have HBB := Lib.hid hb
  clear hb
  generalize w.alloc _ = W at *
  go_loopg [6] n (fun g vi wr => ∃ (k : Nat) (AI : Option Addr) (cI : Nat) (AO : Option Addr) (cO : Nat) (AA : Option Addr) (cA : Nat), k + g = n ∧ vi = .int .i64 k ∧ Hid (Gs wr b b size n k 0 none 0 AI cI AO cO AA cA) ∧ Hid (Below b w wr))
  case atStart => exact ⟨0, none, 0, none, 0, none, 0, by omega, rfl, HG, HB⟩
  case round =>
    clear HG HB
    obtain ⟨k, AI, cI, AO, cO, AA, cA, hkg, rfl, hG, hB⟩ := hrel
    by_cases hk : k < n
    · obtain ⟨A1, c1, w1, W1, A2, c2, w2, W2, A3, c3, w3, W3, ⟨run1, x1, f1, hW1⟩, ⟨y2, l2, run2, x2, f2, hW2⟩, ⟨y3, l3, run3, x3, f3, hW3⟩, G', B'⟩ := gs_step hG.out (by omega)
      rw [show W1.heap.size = w1.heap.size by rw [hW1, size_set]] at run2
      rw [show W2.heap.size = w2.heap.size by rw [hW2, size_set]] at run3
      have R1 := Lib.hid run1
      have R2 := Lib.hid run2
      have R3 := Lib.hid run3
      have HG' := Lib.hid G'
      have HB' := Lib.hid (hB.out.trans B')
      have y1 : wr.cell? ⟨b, 2, none⟩ = some (.slice AI k cI) := hG.out.hb.cell rfl
      have hbl := hG.out.hb.lt
      subst hW1 hW2 hW3
      clear run1 run2 run3 G' B' hG hB
      go_wp2_with (at_builtin; first
        | (refine wpList_app rfl _ _ 39 rfl (.slice AI k cI) (.slice (some ⟨wr.heap.size, 0, none⟩) 1 1) (.slice A1 (k + 1) c1) _ w1 rfl rfl R1.out ?_)
        | (refine wpList_app rfl _ _ 40 rfl (.slice AO k cO) (.slice (some ⟨w1.heap.size, 0, none⟩) 1 1) (.slice A2 (k + 1) c2) _ w2 rfl rfl R2.out ?_)
        | (refine wpList_app rfl _ _ 41 rfl (.slice AA k cA) (.slice (some ⟨w2.heap.size, 0, none⟩) 1 1) (.slice A3 (k + 1) c3) _ w3 rfl rfl R3.out ?_))
      go_roundg (n - (k + 1))
      case measure => omega
      case rel => exact ⟨k + 1, _, _, _, _, _, _, by omega, by go_num, HG', HB'⟩
    · obtain rfl : k = n := by omega
      have HG0 := hG
      have HB0 := hB
      clear hG hB hk
      obtain ⟨wo, rfl⟩ : ∃ wo : World, wo = wr := ⟨_, rfl⟩
      go_wp2
      go_loopg [7] 128 (fun g vj wr => ∃ (j : Nat) (AT : Option Addr) (cT : Nat), j + g = 128 ∧ vj = .int .i64 j ∧ Hid (Gs wr b b size k k j AT cT AI cI AO cO AA cA) ∧ Hid (Below b w wr))
      case atStart => exact ⟨0, none, 0, by omega, rfl, HG0, HB0⟩
      case round =>
        clear HG0 HB0
        obtain ⟨j, AT, cT, hjg, rfl, hG, hB⟩ := hrel
        by_cases hj : j < 128
        · obtain ⟨A', c', w1, hrun, x1, f1, G', B'⟩ := gs_tstep hG.out (by omega)
          have R := Lib.hid hrun
          have HG' := Lib.hid G'
          have HB' := Lib.hid (hB.out.trans B')
          have y1 : wr.cell? ⟨b, 1, none⟩ = some (.slice AT j cT) := hG.out.hb.cell rfl
          have hbl := hG.out.hb.lt
          have hmod : (j : Int).tmod (k : Int) = ((j % k : Nat) : Int) := by
            rw [Int.tmod_eq_emod_of_nonneg (by omega)]
            rfl
          have hk0 : k ≠ 0 := by omega
          have hk1 : (k : Int) ≠ 0 := by omega
          clear hrun G' B' hG hB
          generalize ((j % k : Nat) : Int) = y at *
          go_wp2
          go_region_law (refine step_app rfl (.tmp 51) (.tmp 55) 35 rfl (.slice AT j cT) (.slice (some ⟨wr.heap.size, 0, none⟩) 1 1) (.slice A' (j + 1) c') _ w1 (by simp [Act.eval]) (by simp [Act.eval]) R.out ?_)
          all_goals
            clear y1 x1 f1 R hmod
            go_wp2
            go_roundg (128 - (j + 1))
            case measure => omega
            case rel => exact ⟨j + 1, _, _, by omega, by go_num, HG', HB'⟩
        · obtain rfl : j = 128 := by omega
          go_wp2
          go_ret
          have e := HBB.out
          subst e
          exact ⟨rfl, gs_done hG.out ⟨hn1, hn8⟩, hB.out⟩
end Go.Proofs.Ytbpinkelcbcpjaa.Ni
