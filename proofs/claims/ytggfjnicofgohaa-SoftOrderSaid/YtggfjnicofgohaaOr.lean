import Derived.Test.YtggfjnicofgohaaRg
namespace Go.Proofs.Ytggfjnicofgohaa.Sf
set_option linter.unusedVariables false

/-- The numbers of a bucket's buffers in a backlog, in their order. -/
def idsOf (row : List (Int × Int)) (k : Int) : List Int := (row.filter fun p => decide (p.2 % 256 = k)).map (·.1)
theorem idsOf_snoc (l : List (Int × Int)) (p : Int × Int) (k : Int) : idsOf (l ++ [p]) k = if p.2 % 256 = k then idsOf l k ++ [p.1] else idsOf l k := by
  unfold idsOf
  rw [List.filter_append]
  by_cases h : p.2 % 256 = k <;> simp [h]
theorem idsOf_cons (p : Int × Int) (l : List (Int × Int)) (k : Int) : idsOf (p :: l) k = if p.2 % 256 = k then p.1 :: idsOf l k else idsOf l k := by
  unfold idsOf
  rw [List.filter_cons]
  by_cases h : p.2 % 256 = k <;> simp [h]
theorem idsOf_len (l : List (Int × Int)) (k : Int) : ((idsOf l k).length : Int) = cntOf l k := by
  unfold idsOf cntOf
  rw [List.length_map]
/-- How many wait. -/
def tot (rows : List (List (Int × Int))) : Int := (rows.map fun r => (r.length : Int)).sum
theorem sum_set (l : List Int) (i : Nat) (v : Int) (hi : i < l.length) : (l.set i v).sum = l.sum - l.getD i 0 + v := by
  induction l generalizing i with
  | nil => exact absurd hi (Nat.not_lt_zero _)
  | cons a l ih =>
    cases i with
    | zero => simp; omega
    | succ i =>
      have := ih i (by simpa using hi)
      simp only [List.set_cons_succ, List.sum_cons, List.getD_cons_succ]
      omega
theorem tot_set (rows : List (List (Int × Int))) (i : Nat) (row : List (Int × Int)) (hi : i < rows.length) : tot (rows.set i row) = tot rows - ((rows.getD i []).length : Int) + row.length := by
  unfold tot
  rw [List.map_set, sum_set _ _ _ (by simpa using hi)]
  congr 2
  rw [List.getD_eq_getElem?_getD, List.getD_eq_getElem?_getD, List.getElem?_map, List.getElem?_eq_getElem hi]
  rfl

/-- Each bucket's buffers wait with one core, in their order. wt: what the law has of each bucket, at: with whom. -/
structure Al (s : St) (wt : Nat → List Int) (at' : Nat → Int) (K : Nat) : Prop where
  n1 : 1 ≤ s.n
  n8 : s.n ≤ 8
  m1 : 1 ≤ s.most
  m256 : s.most ≤ 256
  on1 : 1 ≤ s.on.length
  on8 : s.on.length ≤ s.n
  onr : ∀ x ∈ s.on, 0 ≤ x ∧ x < s.n
  rowl : s.rows.length = s.n
  len : ∀ row ∈ s.rows, row.length ≤ s.most
  hash : ∀ row ∈ s.rows, ∀ p ∈ row, 0 ≤ p.2 ∧ p.2 ≤ 4294967295
  lostb : ∀ i, 0 ≤ s.lost.getD i 0 ∧ s.lost.getD i 0 ≤ K
  cl : s.cnt.length = 256
  kl : s.cor.length = 256
  cor : ∀ j, 0 ≤ s.cor.getD j 0 ∧ s.cor.getD j 0 < s.n
  cnt : ∀ j : Nat, j < 256 → s.cnt.getD j 0 = cntOf (s.rows.getD (s.cor.getD j 0).toNat []) j
  ids : ∀ j : Nat, j < 256 → wt j = idsOf (s.rows.getD (s.cor.getD j 0).toNat []) j
  one : ∀ j : Nat, j < 256 → ∀ i, i ≠ (s.cor.getD j 0).toNat → cntOf (s.rows.getD i []) j = 0
  wth : ∀ j : Nat, j < 256 → wt j ≠ [] → at' j = s.cor.getD j 0
variable {s : St} {wt : Nat → List Int} {at' : Nat → Int} {K : Nat}
theorem Al.mono (h : Al s wt at' K) : Al s wt at' (K + 1) := { h with lostb := fun i => by have := h.lostb i; omega }
theorem Al.ok (h : Al s wt at' K) (hK : K ≤ 100000) : s.Ok 1000 := by
  have hlen : ∀ i, (s.rows.getD i []).length ≤ s.most := fun i => by
    by_cases hi : i < s.rows.length
    · exact h.len _ (getD_mem hi)
    · rw [List.getD_eq_getElem?_getD, List.getElem?_eq_none (by omega)]; exact Nat.zero_le _
  refine ⟨h.n1, h.n8, h.m1, h.m256, hlen, fun i p hp => ?_, fun i => ?_, fun j => ?_, by decide⟩
  · by_cases hi : i < s.rows.length
    · exact h.hash _ (getD_mem hi) p hp
    · rw [List.getD_eq_getElem?_getD, List.getElem?_eq_none (by omega)] at hp; cases hp
  · have := h.lostb i; omega
  · by_cases hj : j < 256
    · rw [h.cnt j hj]
      have := cntOf_bd (s.rows.getD (s.cor.getD j 0).toNat []) j
      have := hlen (s.cor.getD j 0).toNat
      have := h.m256
      omega
    · rw [List.getD_eq_getElem?_getD, List.getElem?_eq_none (by have := h.cl; omega)]
      decide
/-- Target answers a core, and the bucket's own where one waits. -/
theorem Al.target (h : Al s wt at' K) (hash : Int) (hh : 0 ≤ hash ∧ hash ≤ 4294967295) (j : Nat) (hj : hash % 256 = j) (hj2 : j < 256) :
    (0 ≤ s.target hash ∧ s.target hash < s.n) ∧ (wt j ≠ [] → at' j = s.target hash) ∧ (wt j ≠ [] → s.target hash = s.cor.getD j 0) := by
  unfold St.target
  rw [hj, Int.toNat_natCast]
  have hc := h.cnt j hj2
  have hw := h.ids j hj2
  have hl := idsOf_len (s.rows.getD (s.cor.getD j 0).toNat []) j
  rw [← hw] at hl
  by_cases hp : 0 < s.cnt.getD j 0
  · rw [if_pos hp]
    exact ⟨h.cor j, h.wth j hj2, fun _ => rfl⟩
  · rw [if_neg hp]
    have he : wt j = [] := List.length_eq_zero_iff.1 (by omega)
    refine ⟨?_, fun x => absurd he x, fun x => absurd he x⟩
    have hon := h.on1
    have hlt : ((hash * s.on.length) / 4294967296).toNat < s.on.length := by
      have : (hash * s.on.length) / 4294967296 < s.on.length := by
        rw [Int.ediv_lt_iff_lt_mul (by decide), Int.mul_comm]
        exact Int.mul_lt_mul_of_pos_left (by omega) (by omega)
      omega
    unfold coreOf
    rw [List.getD_eq_getElem?_getD, List.getElem?_eq_getElem hlt]
    exact h.onr _ (List.getElem_mem hlt)
/-- Put where Target says: it is taken, or there is no room. -/
theorem Al.put (h : Al s wt at' K) (hash id : Int) (hh : 0 ≤ hash ∧ hash ≤ 4294967295) (j : Nat) (hj : hash % 256 = j) (hj2 : j < 256) :
    ((s.put (s.target hash) hash id).2 = 6 ∧ Al (s.put (s.target hash) hash id).1 wt at' (K + 1) ∧ tot (s.put (s.target hash) hash id).1.rows = tot s.rows) ∨
    ((s.put (s.target hash) hash id).2 = 0 ∧ Al (s.put (s.target hash) hash id).1 (fun k => if k = j then wt j ++ [id] else wt k) (fun k => if k = j then s.target hash else at' k) (K + 1) ∧ tot (s.put (s.target hash) hash id).1.rows = tot s.rows + 1) := by
  obtain ⟨⟨hc0, hc1⟩, _, htc⟩ := h.target hash hh j hj hj2
  obtain ⟨i, hi⟩ := Int.eq_ofNat_of_zero_le hc0
  rw [hi] at hc1 htc ⊢
  clear hc0 hi
  have hin : i < s.n := by omega
  have hrl := h.rowl
  have hc := h.cnt j hj2
  have hw := h.ids j hj2
  have hl := idsOf_len (s.rows.getD (s.cor.getD j 0).toNat []) j
  rw [← hw] at hl
  have hcj := h.cor j
  by_cases hf : s.most ≤ (s.rows.getD i []).length
  · left
    have e1 : s.put i hash id = ({ s with lost := s.lost.set i ((s.lost.getD i 0 + 1) % 18446744073709551616) }, 6) := by
      unfold St.put
      rw [if_neg (by omega), Int.toNat_natCast, if_pos hf]
    rw [e1]
    refine ⟨rfl, { h.mono with lostb := fun k => ?_ }, rfl⟩
    show 0 ≤ (s.lost.set i _).getD k 0 ∧ (s.lost.set i _).getD k 0 ≤ _
    rw [getD_set]
    have h1 := h.lostb k
    have h2 := h.lostb i
    split <;> omega
  · right
    -- where the bucket's own core is another one, nothing of it waits
    have hoth : s.cor.getD j 0 ≠ i → wt j = [] ∧ cntOf (s.rows.getD (s.cor.getD j 0).toNat []) j = 0 := fun hne => by
      have he : wt j = [] := Classical.byContradiction fun x => hne (htc x).symm
      rw [he] at hl
      exact ⟨he, by simpa using hl.symm⟩
    have hci : cntOf (s.rows.getD i []) j = ((wt j).length : Int) ∧ idsOf (s.rows.getD i []) j = wt j := by
      by_cases hk : s.cor.getD j 0 = i
      · rw [hk, Int.toNat_natCast] at hw hl
        exact ⟨hl.symm, hw.symm⟩
      · have h0 := h.one j hj2 i (by omega)
        have h1 := idsOf_len (s.rows.getD i []) j
        rw [(hoth hk).1]
        exact ⟨h0, List.length_eq_zero_iff.1 (by omega)⟩
    have e1 : s.put i hash id = ({ s with rows := s.rows.set i (s.rows.getD i [] ++ [(id, hash)]), cnt := s.cnt.set j (cntOf (s.rows.getD i [] ++ [(id, hash)]) j), cor := s.cor.set j i }, 0) := by
      unfold St.put
      rw [if_neg (by omega), Int.toNat_natCast, if_neg hf, hj, Int.toNat_natCast]
      by_cases hk : s.cor.getD j 0 = i
      · rw [hk, Int.toNat_natCast] at hc
        rw [if_pos hk, set_self (by have := h.kl; omega) hk, cntOf_snoc, if_pos hj, hc]
      · rw [if_neg hk]
    rw [e1]
    have hrow : ∀ x ∈ s.rows.set i (s.rows.getD i [] ++ [(id, hash)]), x ∈ s.rows ∨ x = s.rows.getD i [] ++ [(id, hash)] := fun x hx => mem_set hx
    have hri : s.rows.getD i [] ∈ s.rows := getD_mem (by omega)
    have hkl := h.kl
    have hcl := h.cl
    have hcor : ∀ k, (s.cor.set j (i : Int)).getD k 0 = if j = k then (i : Int) else s.cor.getD k 0 := fun k => by
      by_cases e : j = k
      · subst e; rw [set_eq _ _ _ _ (by omega), if_pos rfl]
      · rw [set_ne _ _ _ _ _ e, if_neg e]
    have hrg : ∀ k, (s.rows.set i (s.rows.getD i [] ++ [(id, hash)])).getD k [] = if i = k then s.rows.getD i [] ++ [(id, hash)] else s.rows.getD k [] := fun k => by
      by_cases e : i = k
      · subst e; rw [set_eq _ _ _ _ (by omega), if_pos rfl]
      · rw [set_ne _ _ _ _ _ e, if_neg e]
    refine ⟨rfl, ⟨h.n1, h.n8, h.m1, h.m256, h.on1, h.on8, h.onr, by show (s.rows.set _ _).length = _; rw [List.length_set]; exact hrl, fun row hr => ?_, fun row hr p hp => ?_, h.mono.lostb,
      by show (s.cnt.set _ _).length = _; rw [List.length_set]; exact hcl, by show (s.cor.set _ _).length = _; rw [List.length_set]; exact hkl, fun k => ?_, fun k hk => ?_, fun k hk => ?_, fun k hk q hq => ?_, fun k hk hne => ?_⟩, ?_⟩
    · rcases hrow row hr with h1 | h1
      · exact h.len row h1
      · subst h1
        show (_ ++ [_]).length ≤ s.most
        rw [List.length_append]
        show (s.rows.getD i []).length + 1 ≤ _
        omega
    · rcases hrow row hr with h1 | h1
      · exact h.hash row h1 p hp
      · subst h1
        rcases List.mem_append.1 hp with h2 | h2
        · exact h.hash _ hri p h2
        · rw [List.mem_singleton] at h2; subst h2; exact hh
    · show 0 ≤ (s.cor.set j _).getD k 0 ∧ (s.cor.set j _).getD k 0 < s.n
      rw [hcor]
      have := h.cor k
      split <;> omega
    · show (s.cnt.set j _).getD k 0 = cntOf ((s.rows.set i _).getD ((s.cor.set j _).getD k 0).toNat []) k
      rw [hcor, hrg]
      by_cases e : j = k
      · subst e
        rw [set_eq _ _ _ _ (by omega), if_pos rfl, Int.toNat_natCast, if_pos rfl]
      · rw [set_ne _ _ _ _ _ e, if_neg e, h.cnt k hk]
        by_cases e3 : i = (s.cor.getD k 0).toNat
        · rw [if_pos e3, cntOf_snoc, if_neg (show ¬ hash % 256 = (k : Int) by omega), ← e3]
          omega
        · rw [if_neg e3]
    · show (if k = j then wt j ++ [id] else wt k) = idsOf ((s.rows.set i _).getD ((s.cor.set j _).getD k 0).toNat []) k
      rw [hcor, hrg]
      by_cases e : j = k
      · subst e
        rw [if_pos rfl, if_pos rfl, Int.toNat_natCast, if_pos rfl, idsOf_snoc, if_pos hj, hci.2]
      · rw [if_neg (Ne.symm e), if_neg e, h.ids k hk]
        by_cases e3 : i = (s.cor.getD k 0).toNat
        · rw [if_pos e3, idsOf_snoc, if_neg (show ¬ hash % 256 = (k : Int) by omega), ← e3]
        · rw [if_neg e3]
    · show cntOf ((s.rows.set i _).getD q []) k = 0
      have hq' : q ≠ ((s.cor.set j (i : Int)).getD k 0).toNat := hq
      rw [hcor] at hq'
      rw [hrg]
      by_cases e : j = k
      · subst e
        rw [if_pos rfl, Int.toNat_natCast] at hq'
        rw [if_neg (Ne.symm hq')]
        by_cases hk2 : q = (s.cor.getD j 0).toNat
        · subst hk2
          exact (hoth (by omega)).2
        · exact h.one j hk q hk2
      · rw [if_neg e] at hq'
        have h1 := h.one k hk q hq'
        by_cases e3 : i = q
        · subst e3
          rw [if_pos rfl, cntOf_snoc, if_neg (show ¬ hash % 256 = (k : Int) by omega), h1]
          rfl
        · rw [if_neg e3]; exact h1
    · show (if k = j then (i : Int) else at' k) = (s.cor.set j _).getD k 0
      rw [hcor]
      by_cases e : j = k
      · subst e; rw [if_pos rfl, if_pos rfl]
      · rw [if_neg (Ne.symm e), if_neg e]
        exact h.wth k hk (by simpa [Ne.symm e] using hne)
    · show tot (s.rows.set i _) = _
      rw [tot_set _ _ _ (by omega), List.length_append]
      simp
      omega
end Go.Proofs.Ytggfjnicofgohaa.Sf
