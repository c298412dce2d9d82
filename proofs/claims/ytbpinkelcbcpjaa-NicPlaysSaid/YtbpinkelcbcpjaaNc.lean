import Derived.Test.YtbpinkelcbcpjaaNb
namespace Go.Proofs.Ytbpinkelcbcpjaa.Ni
open Go.RowKit Blk Go.Proofs.YtbpinkelcbcpjaaW.PrintWords
set_option linter.unusedVariables false

def mx (x y : Int) : Int := if x < y then y else x
def mn (x y : Int) : Int := if y < x then y else x
theorem rmax2_mx (k k' : IntKind) (x y : Int) : Builtin.max2 (.int k x) (.int k' y) = pure (.int k (mx x y)) := Go.Proofs.YtbpinkelcbcpjaaW.PrintMore.max2_int k k' x y
theorem rmin2_mn (k k' : IntKind) (x y : Int) : Builtin.min2 (.int k x) (.int k' y) = pure (.int k (mn x y)) := Go.Proofs.YtbpinkelcbcpjaaW.PrintMore.min2_int k k' x y
attribute [local go_sem] rmax2_mx rmin2_mn Go.Proofs.YtbpinkelcbcpjaaW.PrintMore.max_two Go.Proofs.YtbpinkelcbcpjaaW.PrintMore.min_two
/-- How many are taken. -/
def tk (n : Int) (have_ : Nat) : Nat := (mn (mx n 0) have_).toNat
theorem tk_eq (n : Int) (h : Nat) : mn (mx n 0) h = tk n h := by unfold tk mn mx; split <;> split <;> omega
theorem tk_le (n : Int) (h : Nat) : tk n h ≤ h := by unfold tk mn mx; split <;> split <;> omega
/-- The first k of a ring. -/
def cyc {α : Type} (l : List α) (fr k : Nat) : List α := (l.drop fr).take k ++ l.take (k - (l.length - fr))
theorem cyc_len {α : Type} (l : List α) (fr k : Nat) (h1 : fr < l.length) (h2 : k ≤ l.length) : (cyc l fr k).length = k := by
  unfold cyc
  simp only [List.length_append, List.length_take, List.length_drop]
  omega
theorem strs_len1 (l : List ByteArray) : (strs l).length = l.length * 1 := by simp [strs]
theorem strs_drop (l : List ByteArray) (i : Nat) : (strs l).drop (i * 1) = strs (l.drop i) := by simp [strs]
theorem strs_take (l : List ByteArray) (i : Nat) : (strs l).take (i * 1) = strs (l.take i) := by simp [strs]
theorem strs_app (a b : List ByteArray) : strs (a ++ b) = strs a ++ strs b := by simp [strs]
def Qu.poll (size : Nat) (q : Qu) (k : Nat) : Qu := { q with af := (q.af + k) % size, an := q.an - k }
def Qu.gone (size : Nat) (q : Qu) (k : Nat) : Qu := { q with of := (q.of + k) % size, on := q.on - k }
section
variable {w : World} {size qb ib ob : Nat} {q : Qu}
theorem QAt.setAF (h : QAt w size qb ib ob q) (f n : Nat) (hf : f < size) (hn : n ≤ size) : QAt ((w.setCell ⟨qb, 1, none⟩ (.int .i64 f)).setCell ⟨qb, 2, none⟩ (.int .i64 n)) size qb ib ob { q with af := f, an := n } :=
  have h1 := has_ne h.hi h.hq (by decide)
  have h2 := has_ne h.ho h.hq (by decide)
  ⟨(h.hq.set 1 (.int .i64 f)).set 2 (.int .i64 n), (h.hi.setOther _ _ h1).setOther _ _ h1, (h.ho.setOther _ _ h2).setOther _ _ h2, h.la, h.lo, hf, hn, h.fo, h.no⟩
theorem QAt.setOF (h : QAt w size qb ib ob q) (f n : Nat) (hf : f < size) (hn : n ≤ size) : QAt ((w.setCell ⟨qb, 4, none⟩ (.int .i64 f)).setCell ⟨qb, 5, none⟩ (.int .i64 n)) size qb ib ob { q with of := f, on := n } :=
  have h1 := has_ne h.hi h.hq (by decide)
  have h2 := has_ne h.ho h.hq (by decide)
  ⟨(h.hq.set 4 (.int .i64 f)).set 5 (.int .i64 n), (h.hi.setOther _ _ h1).setOther _ _ h1, (h.ho.setOther _ _ h2).setOther _ _ h2, h.la, h.lo, h.fa, h.na, hf, hn⟩
theorem setRow_ch {B : Nat → Prop} {w w' : World} (h : Ch B w w') (g : Nat) (cs : Array Value) (hg : w.heap.size ≤ g) : Ch B w (w'.setRow g cs) :=
  ⟨h.os, h.tape, h.output, by simp [World.setRow]; exact h.size, fun k hk hb => by rw [setRow_other w' g k cs (by omega)]; exact h.block k hk hb⟩
set_option maxHeartbeats 4000000 in
/-- Nothing is taken. -/
theorem take_none (h : QAt w size qb ib ob q) (n : Int) (hk : tk n q.an = 0) :
    Calls Try.prog 35 #[.pointer (some ⟨qb, 0, none⟩), .int .i64 n] w fun e w' => e = .returned (.slice none 0 0) ∧ w = w' := by
  have hm := tk_eq n q.an
  rw [hk] at hm
  have c2 : w.cell? ⟨qb, 2, none⟩ = some (.int .i64 q.an) := h.hq.cell rfl
  clear h hk
  obtain ⟨m1, hm1⟩ : ∃ m1, mx n 0 = m1 := ⟨_, rfl⟩
  rw [hm1] at hm
  go_enter Try.func35, Try.ntmps35
  go_wp2
  go_ret
  exact ⟨rfl, rfl⟩
set_option maxHeartbeats 4000000 in
/-- k are taken. -/
theorem take_some (h : QAt w size qb ib ob q) (n : Int) (hs : size ≤ 256) (k : Nat) (hk : tk n q.an = k) (hk1 : 1 ≤ k) :
    Calls Try.prog 35 #[.pointer (some ⟨qb, 0, none⟩), .int .i64 n] w fun e w' => e = .returned (.slice (some ⟨w.heap.size, 0, none⟩) k k) ∧ Has w' w.heap.size (flat (cyc q.a q.af k)) 53 ∧ QAt w' size qb ib ob (q.poll size k) ∧ Ch (· = qb) w w' := by
  have hkn : k ≤ q.an := by rw [← hk]; exact tk_le _ _
  have hm := tk_eq n q.an
  rw [hk] at hm
  clear hk
  have hkp : ((k : Int) == 0) = false := beq_eq_false_iff_ne.2 (by omega)
  have hnN := h.na
  have hfN := h.fa
  obtain ⟨m1, hm1⟩ : ∃ m1, mx n 0 = m1 := ⟨_, rfl⟩
  rw [hm1] at hm
  obtain ⟨i0, hi0, hz0, hz1, hz2⟩ := info_parts info53
  have hmk : ∀ W : World, (Instr.makeSlice 38 (.int .i64 (k : Int)) (.int .i64 (k : Int))).run Try.prog W = .ok (.slice (some ⟨W.heap.size, 0, none⟩) k k) (W.alloc (.cells (madeCells #[.int .u32 0, .string ⟨#[]⟩] (k * 2)) 53)) := fun W => by
    have := run_make (P := Try.prog) W 38 53 i0 _ Try.underlying38 hi0 hz0 .i64 .i64 (k : Int) (k : Int) (by omega) (Int.le_refl _) (by rw [hz2]; omega) (by omega)
    simp only [Int.toNat_natCast, hz1] at this
    exact this
  obtain ⟨Z, hZ⟩ : ∃ Z : List Value, Z = (madeCells #[.int .u32 0, .string ⟨#[]⟩] (k * 2)).toList := ⟨_, rfl⟩
  have hZl : Z.length = k * 2 := by rw [hZ, Array.length_toList, size_madeCells]
  rw [show madeCells #[.int .u32 0, .string ⟨#[]⟩] (k * 2) = Z.toArray by rw [hZ]] at hmk
  clear hZ
  obtain ⟨g, hg⟩ : ∃ g, g = w.heap.size := ⟨_, rfl⟩
  obtain ⟨W1, hW1⟩ : ∃ W1, W1 = w.alloc (.cells Z.toArray 53) := ⟨_, rfl⟩
  have hX : Has W1 g Z 53 := by rw [hW1, hg]; exact Has.new w Z 53
  have h1 : QAt W1 size qb ib ob q := by rw [hW1]; exact h.alloc _
  have hC1 := Lib.hid (show Ch (· = qb) w W1 by rw [hW1]; exact (Ch.refl _ _).alloc _)
  have hgq : qb ≠ g := by have := h.hq.lt; omega
  have hgi : ib ≠ g := by have := h.hi.lt; omega
  have hgn : ib ≠ g ∧ ob ≠ g := by have := h.hi.lt; have := h.ho.lt; omega
  have HG := Lib.hid (show w.heap.size ≤ g by omega)
  -- the cuts
  obtain ⟨m, hm2⟩ : ∃ m, m = size - q.af := ⟨_, rfl⟩
  have hcut1 : ∀ W : World, (Instr.slice 38 (.slice (some ⟨ib, 0, none⟩) size size) (some (.int .i64 (q.af : Int))) none none).run Try.prog W = .ok (.slice (some ⟨ib, q.af * 2, none⟩) m m) W := fun W => by
    have := cut_from (P := Try.prog) 38 53 .i64 Try.underlying38 hi0 2 hz1 (some ⟨ib, 0, none⟩) size size (q.af : Int) (by omega) (by omega) W
    rw [Int.toNat_natCast, if_neg (by omega), ← hm2] at this
    rw [this, Option.map_some, add_at, Nat.zero_add]
  obtain ⟨k1, hk1'⟩ : ∃ k1, k1 = Nat.min m k := ⟨_, rfl⟩
  have hk1k : k1 ≤ k ∧ k1 ≤ m ∧ (k1 = k ∨ k1 = m) := by
    rw [hk1']
    rcases Nat.le_total m k with x | x
    · rw [show Nat.min m k = m from Nat.min_eq_left x]; omega
    · rw [show Nat.min m k = k from Nat.min_eq_right x]; omega
  obtain ⟨A2, hA2⟩ : ∃ A2, A2 = (if k = k1 then (⟨g, 0, none⟩ : Addr) else ⟨g, k1 * 2, none⟩) := ⟨_, rfl⟩
  have hcut2 : ∀ W : World, (Instr.slice 38 (.slice (some ⟨g, 0, none⟩) k k) (some (.int .i64 (k1 : Int))) none none).run Try.prog W = .ok (.slice (some A2) (k - k1) (k - k1)) W := fun W => by
    have := cut_from (P := Try.prog) 38 53 .i64 Try.underlying38 hi0 2 hz1 (some ⟨g, 0, none⟩) k k (k1 : Int) (by omega) (by omega) W
    rw [Int.toNat_natCast] at this
    rw [this, hA2]
    split
    · rfl
    · rw [Option.map_some, add_at, Nat.zero_add]
  -- the copies
  obtain ⟨X1, hX1⟩ : ∃ X1, X1 = flat ((q.a.drop q.af).take k1) := ⟨_, rfl⟩
  have hal := h.la
  have hX1l : X1.length = k1 * 2 := by
    rw [hX1, flat_len, List.length_take, List.length_drop, Nat.min_eq_left (by omega)]
  have hsz : (Try.prog.info? 53).map (·.size) = some 2 := by rw [hi0]; exact congrArg some hz1
  have hcp1 : (Builtin.copy_ #[38, 38] 3 #[.slice (some ⟨g, 0, none⟩) k k, .slice (some ⟨ib, q.af * 2, none⟩) m m]).run Try.prog W1.drew = .ok (.int .i64 (k1 : Int)) (W1.drew.setRow g (X1 ++ Z.drop (k1 * 2)).toArray) := by
    have := run_copy_e (P := Try.prog) W1.drew 38 38 3 53 2 g 0 k k ⟨ib, q.af * 2, none⟩ m m Z 53 X1 k1 Try.underlying38 hsz hX hk1' hX1l (fun j v hv => by
      rw [add_at]
      refine (h1.hi.drew).cell ?_
      show (flat q.a)[q.af * 2 + j]? = some v
      rw [← List.getElem?_drop, flat_drop]
      rw [hX1, ← flat_take, List.getElem?_take] at hv
      split at hv
      · exact hv
      · cases hv) (by rw [Nat.zero_add, hX1l, hZl]; exact Nat.mul_le_mul_right _ hk1k.1) (by rw [hX1]; exact flat_one _)
    rw [hX1l] at this
    simpa using this
  obtain ⟨R1, hR1⟩ : ∃ R1, R1 = X1 ++ Z.drop (k1 * 2) := ⟨_, rfl⟩
  rw [← hR1] at hcp1
  have hR1l : R1.length = k * 2 := by
    rw [hR1, List.length_append, List.length_drop, hX1l, hZl]
    have := Nat.mul_le_mul_right 2 hk1k.1
    omega
  have c0 : W1.cell? ⟨qb, 0, none⟩ = some (.slice (some ⟨ib, 0, none⟩) size size) := h1.hq.cell rfl
  have c1 : W1.cell? ⟨qb, 1, none⟩ = some (.int .i64 q.af) := h1.hq.cell rfl
  have c2' : W1.cell? ⟨qb, 2, none⟩ = some (.int .i64 q.an) := h1.hq.cell rfl
  have c2 : w.cell? ⟨qb, 2, none⟩ = some (.int .i64 q.an) := h.hq.cell rfl
  have H1 := Lib.hid h1
  have HX := Lib.hid hX
  have HR1 := Lib.hid hR1
  have HX1 := Lib.hid hX1
  have HX1l := Lib.hid hX1l
  have HR1l := Lib.hid hR1l
  have HZl := Lib.hid hZl
  have HA2 := Lib.hid hA2
  have HK1 := Lib.hid hk1k
  have HM := Lib.hid hm2
  have HLA := Lib.hid hal
  have HGN := Lib.hid hgn
  have HSZ := Lib.hid hsz
  have HCUT := Lib.hid hcut2
  have HGG := Lib.hid hg
  clear h h1 hX hR1 hX1 hX1l hR1l hZl hA2 hk1k hm2 hal hgn hsz hcut2 hk1'
  go_enter Try.func35, Try.ntmps35
  go_wp2
  rw [← hW1, ← hg]
  clear hW1 hg hmk c2
  go_region
  all_goals
    clear c0 c1 c2' hcp1 hcut1
    generalize hW2 : World.setRow _ _ _ = W2
    have h2 : QAt W2 size qb ib ob q := by
      rw [← hW2]
      refine H1.out.drew.move fun k hk => setRow_other _ _ _ _ ?_
      have := HGN.out
      rcases hk with rfl | rfl | rfl <;> omega
    have hX2 : Has W2 g R1 53 := by rw [← hW2]; exact setRow_heap _ _ _ _ _ _ HX.out
    have hC2 := Lib.hid (show Ch (· = qb) w W2 by rw [← hW2]; exact setRow_ch hC1.out.drew g _ HG.out)
    clear hW2 H1 HX hC1
    obtain ⟨Y, hY⟩ : ∃ Y, Y = flat (q.a.take (k - k1)) := ⟨_, rfl⟩
    have hYl : Y.length = (k - k1) * 2 := by
      rw [hY, flat_len, List.length_take, Nat.min_eq_left (by have := HLA.out; have := HK1.out; omega)]
    have hcp2 : (Builtin.copy_ #[38, 38] 3 #[.slice (some A2) (k - k1) (k - k1), .slice (some ⟨ib, 0, none⟩) size size]).run Try.prog W2.drew = .ok (.int .i64 ((k - k1 : Nat) : Int)) (W2.drew.setRow g (X1 ++ Y).toArray) := by
      have hmul : (k - k1) * 2 = k * 2 - k1 * 2 := Nat.sub_mul _ _ _
      have hmul2 : k1 * 2 ≤ k * 2 := Nat.mul_le_mul_right _ HK1.out.1
      have hR2 : R1.take (k1 * 2) = X1 := by
        rw [HR1.out, ← HX1l.out, List.take_left]
      have hd : R1.drop (k * 2) = [] := List.drop_eq_nil_of_le (by rw [HR1l.out]; exact Nat.le_refl _)
      have hsrc : ∀ (j : Nat) (v : Value), Y[j]? = some v → W2.drew.cell? ((⟨ib, 0, none⟩ : Addr).add j) = some v := fun j v hv => by
        rw [add_at, Nat.zero_add]
        refine (h2.hi.drew).cell ?_
        rw [hY, ← flat_take, List.getElem?_take] at hv
        split at hv
        · exact hv
        · cases hv
      by_cases e : k = k1
      · have hA : A2 = ⟨g, 0, none⟩ := by rw [HA2.out, if_pos e]
        have hY0 : Y = [] := List.eq_nil_of_length_eq_zero (by rw [hYl, e, Nat.sub_self, Nat.zero_mul])
        have := run_copy_e (P := Try.prog) W2.drew 38 38 3 53 2 g 0 (k - k1) (k - k1) ⟨ib, 0, none⟩ size size R1 53 Y (k - k1) Try.underlying38 HSZ.out hX2 (by rw [e, Nat.sub_self]; exact (Nat.min_zero _).symm) hYl hsrc (by rw [hYl, HR1l.out]; omega) (by rw [hY]; exact flat_one _)
        rw [hA, this, hY0]
        have e1 : R1.take 0 ++ [] ++ R1.drop (0 + ([] : List Value).length) = X1 ++ [] := by
          rw [← hR2, ← e, ← HR1l.out]
          simp
        rw [e1]
      · have hA : A2 = ⟨g, k1 * 2, none⟩ := by rw [HA2.out, if_neg e]
        have := run_copy_e (P := Try.prog) W2.drew 38 38 3 53 2 g (k1 * 2) (k - k1) (k - k1) ⟨ib, 0, none⟩ size size R1 53 Y (k - k1) Try.underlying38 HSZ.out hX2 (Nat.min_eq_right (by omega)).symm hYl hsrc (by rw [hYl, HR1l.out]; omega) (by rw [hY]; exact flat_one _)
        rw [hA, this]
        have e1 : R1.take (k1 * 2) ++ Y ++ R1.drop (k1 * 2 + Y.length) = X1 ++ Y := by
          rw [hR2, hYl, hmul, Nat.add_sub_cancel' hmul2, hd, List.append_nil]
        rw [e1]
    have hXY : X1 ++ Y = flat (cyc q.a q.af k) := by
      unfold cyc
      rw [flat_app, HX1.out, hY]
      have h3 := HK1.out
      have h4 := HLA.out
      have h5 := HM.out
      rw [show k - (q.a.length - q.af) = k - k1 by omega]
      congr 2
      rcases h3.2.2 with e | e
      · rw [e]
      · rw [List.take_of_length_le (by rw [List.length_drop]; omega), List.take_of_length_le (by rw [List.length_drop]; omega)]
    rw [hXY] at hcp2
    have hcut2 := HCUT.out
    have H2 := Lib.hid h2
    have HX2 := Lib.hid hX2
    have c0 : W2.cell? ⟨qb, 0, none⟩ = some (.slice (some ⟨ib, 0, none⟩) size size) := h2.hq.cell rfl
    clear hY hYl hXY HR1l HX1l HR1 HX1 HSZ HCUT HA2 h2 hX2
    obtain ⟨XY, hxy⟩ : ∃ XY, XY = flat (cyc q.a q.af k) := ⟨_, rfl⟩
    rw [← hxy] at hcp2
    have HXY := Lib.hid hxy
    clear hxy
    go_wp2
    go_region
    all_goals
      clear c0 hcp2 hcut2
      generalize hW3 : World.setRow _ _ _ = W3
      have h3 : QAt W3 size qb ib ob q := by
        rw [← hW3]
        refine H2.out.drew.move fun k hk => setRow_other _ _ _ _ ?_
        have := HGN.out
        rcases hk with rfl | rfl | rfl <;> omega
      have hX3 : Has W3 g XY 53 := by rw [← hW3]; exact setRow_heap _ _ _ _ _ _ HX2.out
      have hC3 := Lib.hid (show Ch (· = qb) w W3 by rw [← hW3]; exact setRow_ch hC2.out.drew g _ HG.out)
      clear hW3 H2 HX2 hC2
      have c0 : W3.cell? ⟨qb, 0, none⟩ = some (.slice (some ⟨ib, 0, none⟩) size size) := h3.hq.cell rfl
      have c1 : W3.cell? ⟨qb, 1, none⟩ = some (.int .i64 q.af) := h3.hq.cell rfl
      have c2 : W3.cell? ⟨qb, 2, none⟩ = some (.int .i64 q.an) := h3.hq.cell rfl
      have f1 := h3.hq.free 1
      have f2 := h3.hq.free 2
      obtain ⟨i, hi⟩ : ∃ i, i = (q.af + k) % size := ⟨_, rfl⟩
      have hil2 : i < size := by rw [hi]; exact Nat.mod_lt _ (by omega)
      have hmod : ((q.af : Int) + (k : Int)).tmod (size : Int) = (i : Int) := by
        rw [hi, ← Int.natCast_add, Int.tmod_eq_emod_of_nonneg (by omega)]
        rfl
      obtain ⟨n2, hn2⟩ : ∃ n2, n2 = q.an - k := ⟨_, rfl⟩
      have hwr : IntKind.i64.wrap ((q.af : Int) + (k : Int)) = (q.af : Int) + (k : Int) := by
        rw [IntKind.wrap_i64]
        omega
      have hws : IntKind.i64.wrap ((q.an : Int) - (k : Int)) = (n2 : Int) := by
        rw [IntKind.wrap_i64]
        omega
      have hws2 : (q.an : Int) - (k : Int) = (n2 : Int) := by omega
      have hs00 : size ≠ 0 := by omega
      have HR : Hid (QAt (((W3.setCell ⟨qb, 1, none⟩ (.int .i64 (i : Nat))).setCell ⟨qb, 2, none⟩ (.int .i64 (n2 : Nat))).drew) size qb ib ob (q.poll size k)) := Lib.hid (by
        unfold Qu.poll
        rw [← hi, ← hn2]
        exact (h3.setAF i n2 hil2 (by omega)).drew)
      have HS := Lib.hid ((hC3.out.set ⟨qb, 1, none⟩ (.int .i64 (i : Nat)) (.inl rfl)).set ⟨qb, 2, none⟩ (.int .i64 (n2 : Nat)) (.inl rfl)).drew
      have HT := Lib.hid (((hX3.setOther ⟨qb, 1, none⟩ (.int .i64 (i : Nat)) (Ne.symm hgq)).setOther ⟨qb, 2, none⟩ (.int .i64 (n2 : Nat)) (Ne.symm hgq)).drew)
      have HI := Lib.hid hi
      have HN := Lib.hid hn2
      clear hi hn2 h3 hX3 hC3
      go_wp2
      go_region
      all_goals
        go_wp2
        go_ret
        have HU := HT.out
        rw [HGG.out] at HU ⊢
        rw [HXY.out] at HU
        exact ⟨rfl, HU, HR.out, HS.out⟩
set_option maxHeartbeats 4000000 in
/-- Nothing is taken. -/
theorem gone_none (h : QAt w size qb ib ob q) (n : Int) (hk : tk n q.on = 0) :
    Calls Try.prog 38 #[.pointer (some ⟨qb, 3, none⟩), .int .i64 n] w fun e w' => e = .returned (.slice none 0 0) ∧ w = w' := by
  have hm := tk_eq n q.on
  rw [hk] at hm
  have c2 : w.cell? ⟨qb, 5, none⟩ = some (.int .i64 q.on) := h.hq.cell rfl
  clear h hk
  obtain ⟨m1, hm1⟩ : ∃ m1, mx n 0 = m1 := ⟨_, rfl⟩
  rw [hm1] at hm
  go_enter Try.func38, Try.ntmps38
  go_wp2
  go_ret
  exact ⟨rfl, rfl⟩
set_option maxHeartbeats 4000000 in
/-- k are taken. -/
theorem gone_some (h : QAt w size qb ib ob q) (n : Int) (hs : size ≤ 256) (k : Nat) (hk : tk n q.on = k) (hk1 : 1 ≤ k) :
    Calls Try.prog 38 #[.pointer (some ⟨qb, 3, none⟩), .int .i64 n] w fun e w' => e = .returned (.slice (some ⟨w.heap.size, 0, none⟩) k k) ∧ Has w' w.heap.size (strs (cyc q.o q.of k)) 9 ∧ QAt w' size qb ib ob (q.gone size k) ∧ Ch (· = qb) w w' := by
  have hkn : k ≤ q.on := by rw [← hk]; exact tk_le _ _
  have hm := tk_eq n q.on
  rw [hk] at hm
  clear hk
  have hkp : ((k : Int) == 0) = false := beq_eq_false_iff_ne.2 (by omega)
  have hnN := h.no
  have hfN := h.fo
  obtain ⟨m1, hm1⟩ : ∃ m1, mx n 0 = m1 := ⟨_, rfl⟩
  rw [hm1] at hm
  obtain ⟨i0, hi0, hz0, hz1, hz2⟩ := info_parts info9
  have hmk : ∀ W : World, (Instr.makeSlice 45 (.int .i64 (k : Int)) (.int .i64 (k : Int))).run Try.prog W = .ok (.slice (some ⟨W.heap.size, 0, none⟩) k k) (W.alloc (.cells (madeCells #[.string ⟨#[]⟩] (k * 1)) 9)) := fun W => by
    have := run_make (P := Try.prog) W 45 9 i0 _ Try.underlying45 hi0 hz0 .i64 .i64 (k : Int) (k : Int) (by omega) (Int.le_refl _) (by rw [hz2]; omega) (by omega)
    simp only [Int.toNat_natCast, hz1] at this
    exact this
  obtain ⟨Z, hZ⟩ : ∃ Z : List Value, Z = (madeCells #[.string ⟨#[]⟩] (k * 1)).toList := ⟨_, rfl⟩
  have hZl : Z.length = k * 1 := by rw [hZ, Array.length_toList, size_madeCells]
  rw [show madeCells #[.string ⟨#[]⟩] (k * 1) = Z.toArray by rw [hZ]] at hmk
  clear hZ
  obtain ⟨g, hg⟩ : ∃ g, g = w.heap.size := ⟨_, rfl⟩
  obtain ⟨W1, hW1⟩ : ∃ W1, W1 = w.alloc (.cells Z.toArray 9) := ⟨_, rfl⟩
  have hX : Has W1 g Z 9 := by rw [hW1, hg]; exact Has.new w Z 9
  have h1 : QAt W1 size qb ib ob q := by rw [hW1]; exact h.alloc _
  have hC1 := Lib.hid (show Ch (· = qb) w W1 by rw [hW1]; exact (Ch.refl _ _).alloc _)
  have hgq : qb ≠ g := by have := h.hq.lt; omega
  have hgi : ob ≠ g := by have := h.ho.lt; omega
  have hgn : ib ≠ g ∧ ob ≠ g := by have := h.hi.lt; have := h.ho.lt; omega
  have HG := Lib.hid (show w.heap.size ≤ g by omega)
  -- the cuts
  obtain ⟨m, hm2⟩ : ∃ m, m = size - q.of := ⟨_, rfl⟩
  have hcut1 : ∀ W : World, (Instr.slice 45 (.slice (some ⟨ob, 0, none⟩) size size) (some (.int .i64 (q.of : Int))) none none).run Try.prog W = .ok (.slice (some ⟨ob, q.of * 1, none⟩) m m) W := fun W => by
    have := cut_from (P := Try.prog) 45 9 .i64 Try.underlying45 hi0 1 hz1 (some ⟨ob, 0, none⟩) size size (q.of : Int) (by omega) (by omega) W
    rw [Int.toNat_natCast, if_neg (by omega), ← hm2] at this
    rw [this, Option.map_some, add_at, Nat.zero_add]
  obtain ⟨k1, hk1'⟩ : ∃ k1, k1 = Nat.min m k := ⟨_, rfl⟩
  have hk1k : k1 ≤ k ∧ k1 ≤ m ∧ (k1 = k ∨ k1 = m) := by
    rw [hk1']
    rcases Nat.le_total m k with x | x
    · rw [show Nat.min m k = m from Nat.min_eq_left x]; omega
    · rw [show Nat.min m k = k from Nat.min_eq_right x]; omega
  obtain ⟨A2, hA2⟩ : ∃ A2, A2 = (if k = k1 then (⟨g, 0, none⟩ : Addr) else ⟨g, k1 * 1, none⟩) := ⟨_, rfl⟩
  have hcut2 : ∀ W : World, (Instr.slice 45 (.slice (some ⟨g, 0, none⟩) k k) (some (.int .i64 (k1 : Int))) none none).run Try.prog W = .ok (.slice (some A2) (k - k1) (k - k1)) W := fun W => by
    have := cut_from (P := Try.prog) 45 9 .i64 Try.underlying45 hi0 1 hz1 (some ⟨g, 0, none⟩) k k (k1 : Int) (by omega) (by omega) W
    rw [Int.toNat_natCast] at this
    rw [this, hA2]
    split
    · rfl
    · rw [Option.map_some, add_at, Nat.zero_add]
  -- the copies
  obtain ⟨X1, hX1⟩ : ∃ X1, X1 = strs ((q.o.drop q.of).take k1) := ⟨_, rfl⟩
  have hal := h.lo
  have hX1l : X1.length = k1 * 1 := by
    rw [hX1, strs_len1, List.length_take, List.length_drop, Nat.min_eq_left (by omega)]
  have hsz : (Try.prog.info? 9).map (·.size) = some 1 := by rw [hi0]; exact congrArg some hz1
  have hcp1 : (Builtin.copy_ #[45, 45] 3 #[.slice (some ⟨g, 0, none⟩) k k, .slice (some ⟨ob, q.of * 1, none⟩) m m]).run Try.prog W1.drew = .ok (.int .i64 (k1 : Int)) (W1.drew.setRow g (X1 ++ Z.drop (k1 * 1)).toArray) := by
    have := run_copy_e (P := Try.prog) W1.drew 45 45 3 9 1 g 0 k k ⟨ob, q.of * 1, none⟩ m m Z 9 X1 k1 Try.underlying45 hsz hX hk1' hX1l (fun j v hv => by
      rw [add_at]
      refine (h1.ho.drew).cell ?_
      show (strs q.o)[q.of * 1 + j]? = some v
      rw [← List.getElem?_drop, strs_drop]
      rw [hX1, ← strs_take, List.getElem?_take] at hv
      split at hv
      · exact hv
      · cases hv) (by rw [Nat.zero_add, hX1l, hZl]; exact Nat.mul_le_mul_right _ hk1k.1) (by rw [hX1]; exact strs_one _)
    rw [hX1l] at this
    simpa using this
  obtain ⟨R1, hR1⟩ : ∃ R1, R1 = X1 ++ Z.drop (k1 * 1) := ⟨_, rfl⟩
  rw [← hR1] at hcp1
  have hR1l : R1.length = k * 1 := by
    rw [hR1, List.length_append, List.length_drop, hX1l, hZl]
    have := Nat.mul_le_mul_right 1 hk1k.1
    omega
  have c0 : W1.cell? ⟨qb, 3, none⟩ = some (.slice (some ⟨ob, 0, none⟩) size size) := h1.hq.cell rfl
  have c1 : W1.cell? ⟨qb, 4, none⟩ = some (.int .i64 q.of) := h1.hq.cell rfl
  have c2' : W1.cell? ⟨qb, 5, none⟩ = some (.int .i64 q.on) := h1.hq.cell rfl
  have c2 : w.cell? ⟨qb, 5, none⟩ = some (.int .i64 q.on) := h.hq.cell rfl
  simp only [Nat.mul_one] at hmk hcut1 hcp1
  have H1 := Lib.hid h1
  have HX := Lib.hid hX
  have HR1 := Lib.hid hR1
  have HX1 := Lib.hid hX1
  have HX1l := Lib.hid hX1l
  have HR1l := Lib.hid hR1l
  have HZl := Lib.hid hZl
  have HA2 := Lib.hid hA2
  have HK1 := Lib.hid hk1k
  have HM := Lib.hid hm2
  have HLA := Lib.hid hal
  have HGN := Lib.hid hgn
  have HSZ := Lib.hid hsz
  have HCUT := Lib.hid hcut2
  have HGG := Lib.hid hg
  clear h h1 hX hR1 hX1 hX1l hR1l hZl hA2 hk1k hm2 hal hgn hsz hcut2 hk1'
  go_enter Try.func38, Try.ntmps38
  go_wp2
  rw [← hW1, ← hg]
  clear hW1 hg hmk c2
  go_region
  all_goals
    clear c0 c1 c2' hcp1 hcut1
    generalize hW2 : World.setRow _ _ _ = W2
    have h2 : QAt W2 size qb ib ob q := by
      rw [← hW2]
      refine H1.out.drew.move fun k hk => setRow_other _ _ _ _ ?_
      have := HGN.out
      rcases hk with rfl | rfl | rfl <;> omega
    have hX2 : Has W2 g R1 9 := by rw [← hW2]; exact setRow_heap _ _ _ _ _ _ HX.out
    have hC2 := Lib.hid (show Ch (· = qb) w W2 by rw [← hW2]; exact setRow_ch hC1.out.drew g _ HG.out)
    clear hW2 H1 HX hC1
    obtain ⟨Y, hY⟩ : ∃ Y, Y = strs (q.o.take (k - k1)) := ⟨_, rfl⟩
    have hYl : Y.length = (k - k1) * 1 := by
      rw [hY, strs_len1, List.length_take, Nat.min_eq_left (by have := HLA.out; have := HK1.out; omega)]
    have hcp2 : (Builtin.copy_ #[45, 45] 3 #[.slice (some A2) (k - k1) (k - k1), .slice (some ⟨ob, 0, none⟩) size size]).run Try.prog W2.drew = .ok (.int .i64 ((k - k1 : Nat) : Int)) (W2.drew.setRow g (X1 ++ Y).toArray) := by
      have hmul : (k - k1) * 1 = k * 1 - k1 * 1 := Nat.sub_mul _ _ _
      have hmul2 : k1 * 1 ≤ k * 1 := Nat.mul_le_mul_right _ HK1.out.1
      have hR2 : R1.take (k1 * 1) = X1 := by
        rw [HR1.out, ← HX1l.out, List.take_left]
      have hd : R1.drop (k * 1) = [] := List.drop_eq_nil_of_le (by rw [HR1l.out]; exact Nat.le_refl _)
      have hsrc : ∀ (j : Nat) (v : Value), Y[j]? = some v → W2.drew.cell? ((⟨ob, 0, none⟩ : Addr).add j) = some v := fun j v hv => by
        rw [add_at, Nat.zero_add]
        refine (h2.ho.drew).cell ?_
        rw [hY, ← strs_take, List.getElem?_take] at hv
        split at hv
        · exact hv
        · cases hv
      by_cases e : k = k1
      · have hA : A2 = ⟨g, 0, none⟩ := by rw [HA2.out, if_pos e]
        have hY0 : Y = [] := List.eq_nil_of_length_eq_zero (by rw [hYl, e, Nat.sub_self, Nat.zero_mul])
        have := run_copy_e (P := Try.prog) W2.drew 45 45 3 9 1 g 0 (k - k1) (k - k1) ⟨ob, 0, none⟩ size size R1 9 Y (k - k1) Try.underlying45 HSZ.out hX2 (by rw [e, Nat.sub_self]; exact (Nat.min_zero _).symm) hYl hsrc (by rw [hYl, HR1l.out]; omega) (by rw [hY]; exact strs_one _)
        rw [hA, this, hY0]
        have e1 : R1.take 0 ++ [] ++ R1.drop (0 + ([] : List Value).length) = X1 ++ [] := by
          rw [← hR2, ← e, ← HR1l.out]
          simp
        rw [e1]
      · have hA : A2 = ⟨g, k1 * 1, none⟩ := by rw [HA2.out, if_neg e]
        have := run_copy_e (P := Try.prog) W2.drew 45 45 3 9 1 g (k1 * 1) (k - k1) (k - k1) ⟨ob, 0, none⟩ size size R1 9 Y (k - k1) Try.underlying45 HSZ.out hX2 (Nat.min_eq_right (by omega)).symm hYl hsrc (by rw [hYl, HR1l.out]; omega) (by rw [hY]; exact strs_one _)
        rw [hA, this]
        have e1 : R1.take (k1 * 1) ++ Y ++ R1.drop (k1 * 1 + Y.length) = X1 ++ Y := by
          rw [hR2, hYl, hmul, Nat.add_sub_cancel' hmul2, hd, List.append_nil]
        rw [e1]
    have hXY : X1 ++ Y = strs (cyc q.o q.of k) := by
      unfold cyc
      rw [strs_app, HX1.out, hY]
      have h3 := HK1.out
      have h4 := HLA.out
      have h5 := HM.out
      rw [show k - (q.o.length - q.of) = k - k1 by omega]
      congr 2
      rcases h3.2.2 with e | e
      · rw [e]
      · rw [List.take_of_length_le (by rw [List.length_drop]; omega), List.take_of_length_le (by rw [List.length_drop]; omega)]
    rw [hXY] at hcp2
    have hcut2 := HCUT.out
    have H2 := Lib.hid h2
    have HX2 := Lib.hid hX2
    have c0 : W2.cell? ⟨qb, 3, none⟩ = some (.slice (some ⟨ob, 0, none⟩) size size) := h2.hq.cell rfl
    clear hY hYl hXY HR1l HX1l HR1 HX1 HSZ HCUT HA2 h2 hX2
    obtain ⟨XY, hxy⟩ : ∃ XY, XY = strs (cyc q.o q.of k) := ⟨_, rfl⟩
    rw [← hxy] at hcp2
    have HXY := Lib.hid hxy
    clear hxy
    go_wp2
    go_region
    all_goals
      clear c0 hcp2 hcut2
      generalize hW3 : World.setRow _ _ _ = W3
      have h3 : QAt W3 size qb ib ob q := by
        rw [← hW3]
        refine H2.out.drew.move fun k hk => setRow_other _ _ _ _ ?_
        have := HGN.out
        rcases hk with rfl | rfl | rfl <;> omega
      have hX3 : Has W3 g XY 9 := by rw [← hW3]; exact setRow_heap _ _ _ _ _ _ HX2.out
      have hC3 := Lib.hid (show Ch (· = qb) w W3 by rw [← hW3]; exact setRow_ch hC2.out.drew g _ HG.out)
      clear hW3 H2 HX2 hC2
      have c0 : W3.cell? ⟨qb, 3, none⟩ = some (.slice (some ⟨ob, 0, none⟩) size size) := h3.hq.cell rfl
      have c1 : W3.cell? ⟨qb, 4, none⟩ = some (.int .i64 q.of) := h3.hq.cell rfl
      have c2 : W3.cell? ⟨qb, 5, none⟩ = some (.int .i64 q.on) := h3.hq.cell rfl
      have f1 := h3.hq.free 4
      have f2 := h3.hq.free 5
      obtain ⟨i, hi⟩ : ∃ i, i = (q.of + k) % size := ⟨_, rfl⟩
      have hil2 : i < size := by rw [hi]; exact Nat.mod_lt _ (by omega)
      have hmod : ((q.of : Int) + (k : Int)).tmod (size : Int) = (i : Int) := by
        rw [hi, ← Int.natCast_add, Int.tmod_eq_emod_of_nonneg (by omega)]
        rfl
      obtain ⟨n2, hn2⟩ : ∃ n2, n2 = q.on - k := ⟨_, rfl⟩
      have hwr : IntKind.i64.wrap ((q.of : Int) + (k : Int)) = (q.of : Int) + (k : Int) := by
        rw [IntKind.wrap_i64]
        omega
      have hws : IntKind.i64.wrap ((q.on : Int) - (k : Int)) = (n2 : Int) := by
        rw [IntKind.wrap_i64]
        omega
      have hws2 : (q.on : Int) - (k : Int) = (n2 : Int) := by omega
      have hs00 : size ≠ 0 := by omega
      have HR : Hid (QAt (((W3.setCell ⟨qb, 4, none⟩ (.int .i64 (i : Nat))).setCell ⟨qb, 5, none⟩ (.int .i64 (n2 : Nat))).drew) size qb ib ob (q.gone size k)) := Lib.hid (by
        unfold Qu.gone
        rw [← hi, ← hn2]
        exact (h3.setOF i n2 hil2 (by omega)).drew)
      have HS := Lib.hid ((hC3.out.set ⟨qb, 4, none⟩ (.int .i64 (i : Nat)) (.inl rfl)).set ⟨qb, 5, none⟩ (.int .i64 (n2 : Nat)) (.inl rfl)).drew
      have HT := Lib.hid (((hX3.setOther ⟨qb, 4, none⟩ (.int .i64 (i : Nat)) (Ne.symm hgq)).setOther ⟨qb, 5, none⟩ (.int .i64 (n2 : Nat)) (Ne.symm hgq)).drew)
      have HI := Lib.hid hi
      have HN := Lib.hid hn2
      clear hi hn2 h3 hX3 hC3
      go_wp2
      go_region
      all_goals
        go_wp2
        go_ret
        have HU := HT.out
        rw [HGG.out] at HU ⊢
        rw [HXY.out] at HU
        exact ⟨rfl, HU, HR.out, HS.out⟩
end
end Go.Proofs.Ytbpinkelcbcpjaa.Ni
