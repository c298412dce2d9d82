import Derived.Test.YtggfjnicofgohaaRf
namespace Go.Proofs.Ytggfjnicofgohaa.Sf
set_option linter.unusedVariables false

theorem getD_set {α : Type} (l : List α) (i j : Nat) (v d : α) : (l.set i v).getD j d = if i = j ∧ i < l.length then v else l.getD j d := by
  rw [List.getD_eq_getElem?_getD, List.getD_eq_getElem?_getD, List.getElem?_set]
  by_cases h : i = j
  · subst h
    by_cases h2 : i < l.length
    · simp [h2]
    · simp [h2]
  · simp [h]
theorem set_eq {α : Type} (l : List α) (i : Nat) (v d : α) (h : i < l.length) : (l.set i v).getD i d = v := by
  rw [getD_set, if_pos ⟨rfl, h⟩]
theorem set_ne {α : Type} (l : List α) (i j : Nat) (v d : α) (h : i ≠ j) : (l.set i v).getD j d = l.getD j d := by
  rw [getD_set, if_neg (fun x => h x.1)]
theorem cntOf_cons (p : Int × Int) (l : List (Int × Int)) (k : Int) : cntOf (p :: l) k = cntOf l k + (if p.2 % 256 = k then 1 else 0) := by
  unfold cntOf
  rw [List.filter_cons]
  by_cases h : p.2 % 256 = k <;> simp [h]
theorem mem_set {α : Type} {l : List α} {i : Nat} {v x : α} (h : x ∈ l.set i v) : x ∈ l ∨ x = v := List.mem_or_eq_of_mem_set h
theorem getD_mem {l : List (List (Int × Int))} {i : Nat} (h : i < l.length) : l.getD i [] ∈ l := by
  rw [List.getD_eq_getElem?_getD, List.getElem?_eq_getElem h]
  exact List.getElem_mem h
/-- The program's object and the reference's. -/
structure Sim (s : St) (r : Rf) (K : Nat) : Prop where
  n : r.n = s.n
  most : r.most = s.most
  rows : r.rows = s.rows
  lost : r.lost = s.lost
  on : r.on = s.on
  n1 : 1 ≤ s.n
  n8 : s.n ≤ 8
  m1 : 1 ≤ s.most
  m256 : s.most ≤ 256
  on1 : 1 ≤ s.on.length
  on8 : s.on.length ≤ s.n
  rowl : s.rows.length = s.n
  lostl : s.lost.length = s.n
  len : ∀ row ∈ s.rows, row.length ≤ s.most
  hash : ∀ row ∈ s.rows, ∀ p ∈ row, 0 ≤ p.2 ∧ p.2 ≤ 4294967295
  lostb : ∀ i, 0 ≤ s.lost.getD i 0 ∧ s.lost.getD i 0 ≤ K
  lastb : ∀ j, 0 ≤ r.last.getD j 0 ∧ r.last.getD j 0 ≤ s.n
  cor : ∀ j, s.cor.getD j 0 = if 1 ≤ r.last.getD j 0 then r.last.getD j 0 - 1 else 0
  cnt : ∀ j : Nat, j < 256 → s.cnt.getD j 0 = cntOf (s.rows.getD (s.cor.getD j 0).toNat []) j
  zero : ∀ j : Nat, j < 256 → r.last.getD j 0 < 1 → ∀ row ∈ s.rows, cntOf row j = 0
  cl : s.cnt.length = 256
  kl : s.cor.length = 256
  ll : r.last.length = 256
theorem Sim.zero0 {s : St} {r : Rf} {K : Nat} (h : Sim s r K) (j : Nat) (hj : j < 256) (hl : r.last.getD j 0 < 1) (i : Nat) : cntOf (s.rows.getD i []) j = 0 := by
  by_cases hi : i < s.rows.length
  · exact h.zero j hj hl _ (getD_mem hi)
  · rw [List.getD_eq_getElem?_getD, List.getElem?_eq_none (by omega)]
    rfl
theorem Sim.ok {s : St} {r : Rf} {K : Nat} (h : Sim s r K) (hK : K ≤ 100000) : s.Ok 1000 := by
  have hlen : ∀ i, (s.rows.getD i []).length ≤ s.most := fun i => by
    by_cases hi : i < s.rows.length
    · exact h.len _ (getD_mem hi)
    · rw [List.getD_eq_getElem?_getD, List.getElem?_eq_none (by omega)]; exact Nat.zero_le _
  refine ⟨h.n1, h.n8, h.m1, h.m256, hlen, fun i p hp => ?_, fun i => ?_, fun j => ?_, by decide⟩
  · by_cases hi : i < s.rows.length
    · exact h.hash _ (getD_mem hi) p hp
    · rw [List.getD_eq_getElem?_getD, List.getElem?_eq_none (by omega)] at hp; cases hp
  · have := h.lostb i; omega
  · by_cases hj : j < 256
    · rw [h.cnt j hj]
      have := cntOf_bd (s.rows.getD (s.cor.getD j 0).toNat []) j
      have := hlen (s.cor.getD j 0).toNat
      have := h.m256
      omega
    · rw [List.getD_eq_getElem?_getD, List.getElem?_eq_none (by have := h.cl; omega)]
      decide
theorem Sim.cnt0 {s : St} {r : Rf} {K : Nat} (h : Sim s r K) (j : Nat) : 0 ≤ s.cnt.getD j 0 := by
  by_cases hj : j < 256
  · rw [h.cnt j hj]
    exact (cntOf_bd _ _).1
  · rw [List.getD_eq_getElem?_getD, List.getElem?_eq_none (by have := h.cl; omega)]
    decide
theorem bucket (hash : Int) : ∃ j : Nat, hash % 256 = j ∧ j < 256 := by
  obtain ⟨j, hj⟩ := Int.eq_ofNat_of_zero_le (show 0 ≤ hash % 256 by omega)
  exact ⟨j, hj, by omega⟩
theorem Sim.target {s : St} {r : Rf} {K : Nat} (h : Sim s r K) (hash : Int) : s.target hash = r.target hash := by
  obtain ⟨j, hj, hj2⟩ := bucket hash
  unfold St.target Rf.target
  rw [hj, Int.toNat_natCast, h.on, h.rows]
  have hc := h.cnt j hj2
  have hk := h.cor j
  by_cases hl : 1 ≤ r.last.getD j 0
  · rw [if_pos hl] at hk
    rw [hk] at hc ⊢
    rw [hc]
    by_cases hp : 0 < cntOf (s.rows.getD (r.last.getD j 0 - 1).toNat []) j
    · rw [if_pos hp, if_pos ⟨hl, hp⟩]
    · rw [if_neg hp, if_neg (fun x => hp x.2)]
  · rw [if_neg (show ¬ 0 < s.cnt.getD j 0 by rw [hc, h.zero0 j hj2 (by omega)]; decide), if_neg (fun x => hl x.1)]
theorem set_self {l : List Int} {i : Nat} {v : Int} (hi : i < l.length) (h : l.getD i 0 = v) : l.set i v = l := by
  rw [List.getD_eq_getElem?_getD, List.getElem?_eq_getElem hi] at h
  rw [← h]
  exact List.set_getElem_self hi
theorem Sim.put_form {s : St} {r : Rf} {K : Nat} (h : Sim s r K) (i : Nat) (hi : i < s.n) (hash id : Int) (j : Nat) (hj : hash % 256 = j) (hj2 : j < 256) (hf : ¬ s.most ≤ (s.rows.getD i []).length) :
    s.put i hash id = ({ s with rows := s.rows.set i (s.rows.getD i [] ++ [(id, hash)]), cnt := s.cnt.set j (cntOf (s.rows.getD i [] ++ [(id, hash)]) j), cor := s.cor.set j i }, 0) := by
  unfold St.put
  rw [if_neg (by omega), Int.toNat_natCast, if_neg hf, hj, Int.toNat_natCast]
  by_cases hk : s.cor.getD j 0 = i
  · have hc := h.cnt j hj2
    rw [hk, Int.toNat_natCast] at hc
    rw [if_pos hk, set_self (by have := h.kl; omega) hk, cntOf_snoc, if_pos hj, hc]
  · rw [if_neg hk]
theorem Sim.put {s : St} {r : Rf} {K : Nat} (h : Sim s r K) (hK : K ≤ 100000) (core hash id : Int) (hh : 0 ≤ hash ∧ hash ≤ 4294967295) : (s.put core hash id).2 = (r.put core hash id).2 ∧ Sim (s.put core hash id).1 (r.put core hash id).1 (K + 1) := by
  have hn := h.n
  have hrl := h.rowl
  have hmono : Sim s r (K + 1) := { h with lostb := fun i => by have := h.lostb i; omega }
  by_cases hc : core < 0 ∨ (s.n : Int) ≤ core
  · unfold St.put Rf.put
    rw [if_pos hc, if_pos (by rw [hn]; exact hc)]
    exact ⟨rfl, hmono⟩
  obtain ⟨i, rfl⟩ := Int.eq_ofNat_of_zero_le (show 0 ≤ core by omega)
  have hi : i < s.n := by omega
  by_cases hf : s.most ≤ (s.rows.getD i []).length
  · have e1 : s.put i hash id = ({ s with lost := s.lost.set i ((s.lost.getD i 0 + 1) % 18446744073709551616) }, 6) := by
      unfold St.put
      rw [if_neg hc, Int.toNat_natCast, if_pos hf]
    have e2 : r.put i hash id = ({ r with lost := r.lost.set i ((r.lost.getD i 0 + 1) % 18446744073709551616) }, 6) := by
      unfold Rf.put
      rw [if_neg (by rw [hn]; exact hc), Int.toNat_natCast, if_pos (by rw [h.most, h.rows]; omega)]
    rw [e1, e2]
    refine ⟨rfl, { hmono with lost := by show r.lost.set _ _ = s.lost.set _ _; rw [h.lost], lostl := by show (s.lost.set _ _).length = _; rw [List.length_set]; exact h.lostl, lostb := fun k => ?_ }⟩
    show 0 ≤ (s.lost.set i _).getD k 0 ∧ (s.lost.set i _).getD k 0 ≤ _
    rw [getD_set]
    have h1 := h.lostb k
    have h2 := h.lostb i
    split
    · omega
    · omega
  · obtain ⟨j, hj, hj2⟩ := bucket hash
    have e1 := h.put_form i hi hash id j hj hj2 hf
    have e2 : r.put i hash id = ({ r with rows := r.rows.set i (r.rows.getD i [] ++ [(id, hash)]), last := r.last.set j (i + 1) }, 0) := by
      unfold Rf.put
      rw [if_neg (by rw [hn]; exact hc), Int.toNat_natCast, if_neg (by rw [h.most, h.rows]; omega), hj, Int.toNat_natCast]
    rw [e1, e2]
    have hrow : ∀ x ∈ s.rows.set i (s.rows.getD i [] ++ [(id, hash)]), x ∈ s.rows ∨ x = s.rows.getD i [] ++ [(id, hash)] := fun x hx => mem_set hx
    have hri : s.rows.getD i [] ∈ s.rows := getD_mem (by omega)
    refine ⟨rfl, hn, h.most, by show r.rows.set _ _ = s.rows.set _ _; rw [h.rows], h.lost, h.on, h.n1, h.n8, h.m1, h.m256, h.on1, h.on8, by show (s.rows.set _ _).length = _; rw [List.length_set]; exact hrl, h.lostl, fun row hr => ?_, fun row hr p hp => ?_, hmono.lostb, fun k => ?_, fun k => ?_, fun k hk => ?_, fun k hk hl row hr => ?_,
      by show (s.cnt.set _ _).length = _; rw [List.length_set]; exact h.cl, by show (s.cor.set _ _).length = _; rw [List.length_set]; exact h.kl, by show (r.last.set _ _).length = _; rw [List.length_set]; exact h.ll⟩
    · rcases hrow row hr with h1 | h1
      · exact h.len row h1
      · subst h1
        show (_ ++ [_]).length ≤ s.most
        rw [List.length_append]
        show (s.rows.getD i []).length + 1 ≤ _
        omega
    · rcases hrow row hr with h1 | h1
      · exact h.hash row h1 p hp
      · subst h1
        rcases List.mem_append.1 hp with h2 | h2
        · exact h.hash _ hri p h2
        · rw [List.mem_singleton] at h2; subst h2; exact hh
    · show 0 ≤ (r.last.set j _).getD k 0 ∧ (r.last.set j _).getD k 0 ≤ s.n
      rw [getD_set]
      have := h.lastb k
      split <;> omega
    · show (s.cor.set j _).getD k 0 = if 1 ≤ (r.last.set j _).getD k 0 then (r.last.set j _).getD k 0 - 1 else 0
      have h1 := h.kl
      have h2 := h.ll
      by_cases e : j = k
      · subst e
        rw [set_eq _ _ _ _ (by omega), set_eq _ _ _ _ (by omega), if_pos (by omega)]
        omega
      · rw [set_ne _ _ _ _ _ e, set_ne _ _ _ _ _ e]
        exact h.cor k
    · show (s.cnt.set j _).getD k 0 = cntOf ((s.rows.set i _).getD ((s.cor.set j _).getD k 0).toNat []) k
      have h1 := h.kl
      have h2 := h.cl
      by_cases e : j = k
      · subst e
        rw [set_eq _ _ _ _ (by omega), set_eq _ _ _ _ (by omega), Int.toNat_natCast, set_eq _ _ _ _ (by omega)]
      · rw [set_ne _ _ _ _ _ e, set_ne _ _ _ _ _ e, h.cnt k hk]
        by_cases e3 : i = (s.cor.getD k 0).toNat
        · rw [← e3, set_eq _ _ _ _ (by omega), cntOf_snoc, if_neg (show ¬ hash % 256 = (k : Int) by omega)]
          omega
        · rw [set_ne _ _ _ _ _ e3]
    · have hl' : (r.last.set j ((i : Int) + 1)).getD k 0 < 1 := hl
      rw [getD_set] at hl'
      have h2 := h.ll
      by_cases e : j = k
      · rw [if_pos ⟨e, by omega⟩] at hl'; omega
      · rw [if_neg (fun x => e x.1)] at hl'
        rcases hrow row hr with h1 | h1
        · exact h.zero k hk hl' row h1
        · subst h1
          rw [cntOf_snoc, if_neg (show ¬ hash % 256 = (k : Int) by omega), h.zero k hk hl' _ hri]
          rfl
theorem Sim.take {s : St} {r : Rf} {K : Nat} (h : Sim s r K) (core : Int) : (s.take core).2 = (r.take core).2 ∧ Sim (s.take core).1 (r.take core).1 K := by
  have hn := h.n
  have hrl := h.rowl
  by_cases hc : core < 0 ∨ (s.n : Int) ≤ core
  · unfold St.take Rf.take
    rw [if_pos hc, if_pos (by rw [hn]; exact hc)]
    exact ⟨rfl, h⟩
  obtain ⟨i, rfl⟩ := Int.eq_ofNat_of_zero_le (show 0 ≤ core by omega)
  have hi : i < s.n := by omega
  unfold St.take Rf.take
  rw [if_neg hc, if_neg (by rw [hn]; exact hc), Int.toNat_natCast, h.rows]
  cases hg : s.rows.getD i [] with
  | nil => exact ⟨rfl, h⟩
  | cons p row =>
    dsimp only
    have hri : s.rows.getD i [] ∈ s.rows := getD_mem (by omega)
    rw [hg] at hri
    obtain ⟨j, hj, hj2⟩ := bucket p.2
    rw [hj, Int.toNat_natCast]
    have hrow : ∀ x ∈ s.rows.set i row, x ∈ s.rows ∨ x = row := fun x hx => mem_set hx
    have hcn : ∀ k : Nat, 0 ≤ s.cor.getD k 0 := fun k => by
      rw [h.cor k]; split <;> omega
    have key : ∀ cnt' : List Int, cnt'.length = 256 → (∀ k : Nat, k < 256 → cnt'.getD k 0 = if j = k ∧ s.cor.getD j 0 = i then s.cnt.getD k 0 - 1 else s.cnt.getD k 0) →
        Sim { s with rows := s.rows.set i row, cnt := cnt' } { r with rows := s.rows.set i row } K := by
      intro cnt' hcl hc'
      refine ⟨hn, h.most, rfl, h.lost, h.on, h.n1, h.n8, h.m1, h.m256, h.on1, h.on8, by show (s.rows.set _ _).length = _; rw [List.length_set]; exact hrl, h.lostl, fun x hx => ?_, fun x hx q hq => ?_, h.lostb, h.lastb, h.cor, fun k hk => ?_, fun k hk hl x hx => ?_, hcl, h.kl, h.ll⟩
      · rcases hrow x hx with h1 | h1
        · exact h.len x h1
        · subst h1
          have := h.len _ hri
          show x.length ≤ s.most
          rw [List.length_cons] at this
          omega
      · rcases hrow x hx with h1 | h1
        · exact h.hash x h1 q hq
        · subst h1
          exact h.hash _ hri q (List.mem_cons_of_mem _ hq)
      · show cnt'.getD k 0 = cntOf ((s.rows.set i row).getD (s.cor.getD k 0).toNat []) k
        rw [hc' k hk, h.cnt k hk]
        have hk0 := hcn k
        by_cases e : i = (s.cor.getD k 0).toNat
        · rw [← e, set_eq _ _ _ _ (by omega), hg, cntOf_cons, hj]
          by_cases e2 : j = k
          · subst e2
            rw [if_pos rfl, if_pos ⟨rfl, by omega⟩]
            omega
          · rw [if_neg (show ¬ ((j : Int) = (k : Int)) by omega), if_neg (fun x => e2 x.1)]
            omega
        · rw [set_ne _ _ _ _ _ e, if_neg]
          rintro ⟨rfl, h4⟩
          rw [h4] at e
          exact e rfl
      · rcases hrow x hx with h1 | h1
        · exact h.zero k hk hl x h1
        · subst h1
          have h5 := h.zero k hk hl _ hri
          rw [cntOf_cons] at h5
          have h6 := (cntOf_bd x k).1
          split at h5 <;> omega
    by_cases hk : s.cor.getD j 0 = i
    · rw [if_pos hk]
      refine ⟨rfl, key _ (by rw [List.length_set]; exact h.cl) fun k hk2 => ?_⟩
      rw [getD_set]
      have := h.cl
      by_cases e : j = k
      · subst e
        rw [if_pos ⟨rfl, by omega⟩, if_pos ⟨rfl, hk⟩]
      · rw [if_neg (fun x => e x.1), if_neg (fun x => e x.1)]
    · rw [if_neg hk]
      refine ⟨rfl, key _ h.cl fun k hk2 => ?_⟩
      rw [if_neg (fun x => hk x.2)]
theorem upTo_len {n : Nat} {on : List Int} (h : upTo n on on.length) : on.length ≤ n := by
  have key : ∀ k, k < on.length → (k : Int) ≤ on.getD k 0 := by
    intro k
    induction k with
    | zero => intro hk; have := (h 0 hk).1.1; omega
    | succ k ih =>
      intro hk
      have h1 := ih (by omega)
      rcases (h (k + 1) hk).2 with h2 | h2
      · omega
      · rw [show k + 1 - 1 = k from rfl] at h2
        omega
  by_cases h0 : on.length = 0
  · omega
  · have h1 := key (on.length - 1) (by omega)
    have h2 := (h (on.length - 1) (by omega)).1.2
    omega
theorem Sim.cores {s : St} {r : Rf} {K : Nat} (h : Sim s r K) (on : List Int) : (s.cores on).2 = (r.cores on).2 ∧ Sim (s.cores on).1 (r.cores on).1 K := by
  have hn := h.n
  unfold St.cores Rf.cores
  by_cases hc : 1 ≤ on.length ∧ upTo s.n on on.length
  · rw [if_pos hc, if_pos (by rw [hn]; exact hc)]
    exact ⟨rfl, { h with on := rfl, on1 := hc.1, on8 := upTo_len hc.2 }⟩
  · rw [if_neg hc, if_neg (by rw [hn]; exact hc)]
    exact ⟨rfl, h⟩
theorem sim_start (n most : Nat) (h1 : 1 ≤ n ∧ n ≤ 8) (h2 : 1 ≤ most ∧ most ≤ 256) : Sim (fresh n most) (rfresh n most) 0 := by
  have hrep : ∀ row ∈ (fresh n most).rows, row = [] := fun row hr => List.eq_of_mem_replicate hr
  refine ⟨rfl, rfl, rfl, rfl, rfl, h1.1, h1.2, h2.1, h2.2, by simp [fresh]; omega, by simp [fresh], by simp [fresh], by simp [fresh], fun row hr => by rw [hrep row hr]; exact Nat.zero_le _, fun row hr p hp => absurd hp (by rw [hrep row hr]; exact List.not_mem_nil), fun i => ?_, fun j => ?_, fun j => ?_, fun j hj => ?_, fun j hj hl row hr => (congrArg (fun x => cntOf x j) (hrep row hr)).trans rfl, z256_len, z256_len, z256_len⟩
  · show 0 ≤ (List.replicate n (0 : Int)).getD i 0 ∧ (List.replicate n (0 : Int)).getD i 0 ≤ _
    rw [List.getD_eq_getElem?_getD, List.getElem?_replicate]
    split <;> simp
  · show 0 ≤ z256.getD j 0 ∧ z256.getD j 0 ≤ _
    rw [z_getD]; omega
  · show z256.getD j 0 = if 1 ≤ z256.getD j 0 then z256.getD j 0 - 1 else 0
    rw [z_getD]; rfl
  · show z256.getD j 0 = cntOf ((List.replicate n []).getD (z256.getD j 0).toNat []) j
    rw [z_getD, List.getD_eq_getElem?_getD, List.getElem?_replicate]
    split <;> rfl
end Go.Proofs.Ytggfjnicofgohaa.Sf
