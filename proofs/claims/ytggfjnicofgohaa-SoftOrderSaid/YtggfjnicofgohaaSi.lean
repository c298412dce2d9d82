import Derived.Test.YtggfjnicofgohaaSh
namespace Go.Proofs.Ytggfjnicofgohaa.Sf
open Go.RowKit Blk Go.Proofs.YtggfjnicofgohaaW.PrintWords
set_option linter.unusedVariables false

/-- The object lies beyond the blocks of w0, and those are as they were. -/
structure Own (w0 : World) (b : Nat) (s : St) (w : World) : Prop where
  is : ∃ r l rv O, At w w0.heap.size b r l rv O s
  below : Below w0.heap.size w0 w
def Bad (n most : Int) : Prop := n < 1 ∨ 8 < n ∨ most < 1 ∨ 256 < most

set_option maxHeartbeats 1000000 in
theorem new_bad (n most : Int) (w : World) (h : Bad n most) : Calls Try.prog 10 #[.int .i64 n, .int .i64 most] w fun e w' => e = .returned (.tuple #[.pointer none, .int .i64 2]) ∧ w = w' := by
  unfold Bad at h
  by_cases h1 : n < 1
  · go_enter Try.func10, Try.ntmps10
    go_wp2
    go_ret2
    exact ⟨rfl, rfl⟩
  by_cases h2 : 8 < n
  · go_enter Try.func10, Try.ntmps10
    go_wp2
    go_ret2
    exact ⟨rfl, rfl⟩
  by_cases h3 : most < 1
  · go_enter Try.func10, Try.ntmps10
    go_wp2
    go_ret2
    exact ⟨rfl, rfl⟩
  have h4 : 256 < most := by omega
  go_enter Try.func10, Try.ntmps10
  go_wp2
  go_ret2
  exact ⟨rfl, rfl⟩

theorem young_full (n most : Nat) : young n most n = fresh n most := rfl
theorem new_o (n most : Nat) (w0 w : World) (h0 : Below w0.heap.size w0 w) (h1 : 1 ≤ n ∧ n ≤ 8) (h2 : 1 ≤ most ∧ most ≤ 256) :
    Calls Try.prog 10 #[.int .i64 n, .int .i64 most] w fun e w' => e = .returned (.tuple #[.pointer (some ⟨w.heap.size + 2, 0, none⟩), .int .i64 0]) ∧ Own w0 (w.heap.size + 2) (fresh n most) w' := by
  refine (new_c n most w h1 h2).mono ?_
  rintro e w' ⟨rfl, ⟨r, l, O, hA⟩, hB⟩
  have hs := h0.size
  exact ⟨rfl, ⟨r, l, _, O, ⟨hA.hb, hA.hr, hA.hl, q_lower hA.ho hs, hA.rvl, hA.rowl, hA.lostl, fun i v row a b => q_lower (hA.q i v row a b) hs, hA.ne, Nat.le_trans hs hA.gb, Nat.le_trans hs hA.gr, Nat.le_trans hs hA.gl, hA.cl, hA.kl⟩⟩, h0.trans (hB.mono hs)⟩
section
variable {w0 w : World} {b : Nat} {s : St}
theorem Own.put_ok (h : Own w0 b s w) {K : Int} (ho : s.Ok K) (hK : K ≤ 1000000) (core hash id : Int) (hh : 0 ≤ hash ∧ hash ≤ 4294967295) (hc0 : 0 ≤ s.cnt.getD (hash % 256).toNat 0) :
    Calls Try.prog 14 #[.pointer (some ⟨b, 0, none⟩), .int .i64 core, .int .u32 hash, .int .u64 id] w fun e w' => e = .returned (.int .i64 (s.put core hash id).2) ∧ Own w0 b (s.put core hash id).1 w' := by
  obtain ⟨r, l, rv, O, hA⟩ := h.is
  refine (put_c hA ho hK core hash id hh h.below.size hc0).mono ?_
  rintro e w' ⟨rfl, ⟨rv', hA'⟩, hF⟩
  exact ⟨rfl, ⟨r, l, rv', O, hA'⟩, hF.below h.below h.below.size⟩
theorem Own.cores_ok (h : Own w0 b s w) (hn : s.n ≤ 8) {base2 : Nat} (A : Option Addr) (c : Nat) (on : List Int) (hq : QRow w base2 3 1 (.slice A on.length c) on.length (on.map (Value.int .i64))) (hlen : on.length ≤ 1000000) :
    Calls Try.prog 11 #[.pointer (some ⟨b, 0, none⟩), .slice A on.length c] w fun e w' => e = .returned (.int .i64 (s.cores on).2) ∧ Own w0 b (s.cores on).1 w' := by
  obtain ⟨r, l, rv, O, hA⟩ := h.is
  refine (cores_c hA hn h.below.size A c on hq hlen).mono ?_
  rintro e w' ⟨rfl, ⟨O', hA'⟩, hF⟩
  exact ⟨rfl, ⟨r, l, rv, O', hA'⟩, hF.below h.below h.below.size⟩
theorem Own.target_ok (h : Own w0 b s w) (hash : Int) (hh : 0 ≤ hash ∧ hash ≤ 4294967295) (h0 : 1 ≤ s.on.length) (h8 : s.on.length ≤ 8) :
    Calls Try.prog 13 #[.pointer (some ⟨b, 0, none⟩), .int .u32 hash] w fun e w' => e = .returned (.tuple #[.int .i64 (s.target hash), .int .i64 0]) ∧ w = w' := by
  obtain ⟨r, l, rv, O, hA⟩ := h.is
  exact target_c hA hash hh h0 h8
theorem Own.len_ok (h : Own w0 b s w) (core : Int) (hn : s.n ≤ 8) : Calls Try.prog 15 #[.pointer (some ⟨b, 0, none⟩), .int .i64 core] w fun e w' => e = .returned (.int .i64 (s.len core)) ∧ w = w' := by
  obtain ⟨r, l, rv, O, hA⟩ := h.is
  exact len_c hA core hn
theorem Own.drops_ok (h : Own w0 b s w) (core : Int) (hn : s.n ≤ 8) : Calls Try.prog 21 #[.pointer (some ⟨b, 0, none⟩), .int .i64 core] w fun e w' => e = .returned (.int .u64 (s.drops core)) ∧ w = w' := by
  obtain ⟨r, l, rv, O, hA⟩ := h.is
  exact drops_c hA core hn
theorem take_c {base r l : Nat} {rv : List Value} {O : Value} (h : At w base b r l rv O s) {K : Int} (ho : s.Ok K) (hK : K ≤ 1000000) (core : Int) :
    Calls Try.prog 12 #[.pointer (some ⟨b, 0, none⟩), .int .i64 core] w fun e w' => e = .returned (.tuple #[.int .u64 (s.take core).2.1, .int .u32 (s.take core).2.2.1, .bool (s.take core).2.2.2]) ∧ PutPost base b r l O (s.take core).1 w w' := by
  unfold St.take
  by_cases hc : core < 0 ∨ (s.n : Int) ≤ core
  · rw [if_pos hc]
    refine (take_bad h core hc).mono ?_
    rintro e w' ⟨rfl, rfl⟩
    exact ⟨rfl, ⟨rv, h⟩, Fr.refl _ _ _⟩
  rw [if_neg hc]
  obtain ⟨i, rfl⟩ := Int.eq_ofNat_of_zero_le (show 0 ≤ core by omega)
  have hi : i < s.n := by omega
  obtain ⟨A, c, row, hrow, _⟩ := h.row i hi
  rw [Int.toNat_natCast, getD_of hrow]
  cases row with
  | nil =>
    refine (take_none h i hi ho.n8 hrow).mono ?_
    rintro e w' ⟨rfl, rfl⟩
    exact ⟨rfl, ⟨rv, h⟩, Fr.refl _ _ _⟩
  | cons p row =>
    have hl := ho.len i
    have hm := ho.m256
    have hh := ho.hash i
    rw [getD_of hrow] at hl hh
    have hcn := ho.cnt (p.2 % 256).toNat
    simp only [List.length_cons] at hl
    dsimp only
    by_cases hk : s.cor.getD (p.2 % 256).toNat 0 = i
    · rw [if_pos hk]
      exact take_same h i hi ho.n8 p row hrow (by omega) (hh p (List.mem_cons_self ..)) (by omega) hk
    · rw [if_neg hk]
      exact take_other h i hi ho.n8 p row hrow (by omega) (hh p (List.mem_cons_self ..)) (by omega) hk
theorem Own.take_ok (h : Own w0 b s w) {K : Int} (ho : s.Ok K) (hK : K ≤ 1000000) (core : Int) :
    Calls Try.prog 12 #[.pointer (some ⟨b, 0, none⟩), .int .i64 core] w fun e w' => e = .returned (.tuple #[.int .u64 (s.take core).2.1, .int .u32 (s.take core).2.2.1, .bool (s.take core).2.2.2]) ∧ Own w0 b (s.take core).1 w' := by
  obtain ⟨r, l, rv, O, hA⟩ := h.is
  refine (take_c hA ho hK core).mono ?_
  rintro e w' ⟨rfl, ⟨rv', hA'⟩, hF⟩
  exact ⟨rfl, ⟨r, l, rv', O, hA'⟩, hF.below h.below h.below.size⟩
theorem Own.alloc (h : Own w0 b s w) (o : Obj) : Own w0 b s (w.alloc o) := by
  obtain ⟨r, l, rv, O, hA⟩ := h.is
  exact ⟨⟨r, l, rv, O, hA.move ((Keeps.refl _ _).alloc o)⟩, h.below.alloc h.below.size o⟩
end
theorem q_lit (w : World) (on : List Int) (T : TypeId) (k : IntKind) (hl : on.length ≤ 1000000) : QRow (w.alloc (.cells (on.map (Value.int k)).toArray T)) w.heap.size T 1 (.slice (some ⟨w.heap.size, 0, none⟩) on.length on.length) on.length (on.map (Value.int k)) := by
  refine ⟨by simp, .inr ⟨w.heap.size, 0, on.length, (on.map (Value.int k)).toArray, by simp, Nat.le_refl _, Has.new w _ T, Nat.le_refl _, by unfold maxLen; omega, by simp, by simp; exact List.take_of_length_le (by simp)⟩⟩

def s1 : St := ⟨2, 4, [[], []], [0, 0], [1], z256, z256⟩
def s2 : St := ⟨2, 4, [[], [(42, 7)]], [0, 0], [1], z256.set 7 1, z256.set 7 1⟩
def s3 : St := ⟨2, 4, [[], []], [0, 0], [1], (z256.set 7 1).set 7 0, z256.set 7 1⟩
theorem s_cores : (fresh 2 4).cores [1] = (s1, 0) := by
  unfold St.cores
  rw [if_pos (by decide)]
  rfl
theorem s_target : s1.target 7 = 1 := by decide +kernel
theorem s_put : s1.put 1 7 42 = (s2, 0) := by
  unfold St.put
  rw [if_neg (by decide), if_neg (by decide +kernel), if_neg (by decide +kernel)]
  rfl
theorem s_take : s2.take 1 = (s3, 42, 7, true) := by
  unfold St.take
  rw [if_neg (by decide)]
  show (if s2.cor.getD 7 0 = 1 then _ else _) = _
  rw [if_pos (by decide +kernel)]
  rfl
theorem s_len : s3.len 1 = 0 := by decide +kernel
theorem z_getD (j : Nat) : z256.getD j 0 = 0 := by
  unfold z256
  rw [List.getD_eq_getElem?_getD, List.getElem?_replicate]
  split <;> rfl
theorem getD2 {α : Type} (a b d : α) (i : Nat) : [a, b].getD i d = a ∨ [a, b].getD i d = b ∨ [a, b].getD i d = d := by
  match i with
  | 0 => exact .inl rfl
  | 1 => exact .inr (.inl rfl)
  | i + 2 => exact .inr (.inr rfl)
theorem set_bd (l : List Int) (i j : Nat) (v K : Int) (hl : ∀ j, -K ≤ l.getD j 0 ∧ l.getD j 0 ≤ K) (hv : -K ≤ v ∧ v ≤ K) : -K ≤ (l.set i v).getD j 0 ∧ (l.set i v).getD j 0 ≤ K := by
  rw [List.getD_eq_getElem?_getD, List.getElem?_set]
  split
  · split
    · exact hv
    · have := hl l.length
      rw [List.getD_eq_getElem?_getD, List.getElem?_eq_none (Nat.le_refl _)] at this
      exact this
  · have := hl j
    rw [List.getD_eq_getElem?_getD] at this
    exact this
theorem z_bd (j : Nat) : -256 ≤ z256.getD j 0 ∧ z256.getD j 0 ≤ 256 := by rw [z_getD]; decide
theorem s1_ok : s1.Ok 256 := by
  refine ⟨by decide, by decide, by decide, by decide, fun i => ?_, fun i p hp => ?_, fun i => ?_, z_bd, by decide⟩
  · rcases getD2 ([] : List (Int × Int)) [] [] i with e | e | e <;> (rw [show s1.rows = [[], []] from rfl, e]; decide)
  · rcases getD2 ([] : List (Int × Int)) [] [] i with e | e | e <;> (rw [show s1.rows = [[], []] from rfl, e] at hp; cases hp)
  · rcases getD2 (0 : Int) 0 0 i with e | e | e <;> (rw [show s1.lost = [0, 0] from rfl, e]; decide)
theorem s2_ok : s2.Ok 256 := by
  refine ⟨by decide, by decide, by decide, by decide, fun i => ?_, fun i p hp => ?_, fun i => ?_, fun j => set_bd _ _ _ _ _ z_bd (by decide), by decide⟩
  · rcases getD2 ([] : List (Int × Int)) [(42, 7)] [] i with e | e | e <;> (rw [show s2.rows = [[], [(42, 7)]] from rfl, e]; decide)
  · rcases getD2 ([] : List (Int × Int)) [(42, 7)] [] i with e | e | e <;> (rw [show s2.rows = [[], [(42, 7)]] from rfl, e] at hp; first | (cases hp; done) | (simp at hp; subst hp; decide))
  · rcases getD2 (0 : Int) 0 0 i with e | e | e <;> (rw [show s2.lost = [0, 0] from rfl, e]; decide)

set_option maxHeartbeats 4000000 in
set_option maxRecDepth 100000 in
theorem works_k (w0 w : World) (h0 : Below w0.heap.size w0 w) : Calls Try.prog 9 #[] w fun e w' => e = .returned (.bool true) ∧ Below w0.heap.size w0 w' := by
  go_enter Try.func9, Try.ntmps9
  go_wp2_with fail
  refine (new_o 2 4 w0 w h0 (by decide) (by decide)).mono ?_
  rintro e w1 ⟨rfl, HL⟩
  obtain ⟨b, hb⟩ : ∃ b, b = w.heap.size + 2 := ⟨_, rfl⟩
  rw [← hb] at HL ⊢
  clear hb
  go_wp2_with fail
  refine ((HL.alloc _).cores_ok (by decide) _ 1 [1] (q_lit w1 [1] 3 .i64 (by decide)) (by decide)).mono ?_
  clear HL
  rintro e w2 ⟨rfl, HL⟩
  rw [s_cores] at HL ⊢
  go_wp2_with fail
  refine (HL.target_ok 7 (by decide) (by decide) (by decide)).mono ?_
  rintro e w3 ⟨rfl, rfl⟩
  rw [s_target]
  go_wp2_with fail
  refine (HL.put_ok s1_ok (by decide) 1 7 42 (by decide) (by decide +kernel)).mono ?_
  clear HL
  rintro e w4 ⟨rfl, HL⟩
  rw [s_put] at HL ⊢
  go_wp2_with fail
  refine (HL.take_ok s2_ok (by decide) 1).mono ?_
  clear HL
  rintro e w5 ⟨rfl, HL⟩
  rw [s_take] at HL ⊢
  go_wp2_with fail
  refine (HL.len_ok 1 (by decide)).mono ?_
  rintro e w6 ⟨rfl, rfl⟩
  rw [s_len]
  go_wp2
  go_ret
  exact ⟨by first | rfl | (simp; done), HL.below⟩
end Go.Proofs.Ytggfjnicofgohaa.Sf
