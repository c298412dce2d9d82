import Derived.Test.YtggfjnicofgohaaOr
namespace Go.Proofs.Ytggfjnicofgohaa.Sf
set_option linter.unusedVariables false
variable {s : St} {wt : Nat → List Int} {at' : Nat → Int} {K : Nat}
/-- What is taken is its bucket's first. -/
theorem Al.take (h : Al s wt at' K) (core : Int) :
    s.take core = (s, 0, 0, false) ∨
    ∃ (p : Int × Int) (j : Nat) (rest : List Int) (s' : St), p.2 % 256 = (j : Int) ∧ j < 256 ∧ (0 ≤ p.2 ∧ p.2 ≤ 4294967295) ∧ s.take core = (s', p.1, p.2, true) ∧ wt j = p.1 :: rest ∧ at' j = core ∧ Al s' (fun k => if k = j then rest else wt k) at' K ∧ tot s'.rows = tot s.rows - 1 ∧ s'.n = s.n := by
  have hrl := h.rowl
  by_cases hc : core < 0 ∨ (s.n : Int) ≤ core
  · left
    unfold St.take
    rw [if_pos hc]
  obtain ⟨i, rfl⟩ := Int.eq_ofNat_of_zero_le (show 0 ≤ core by omega)
  have hi : i < s.n := by omega
  unfold St.take
  rw [if_neg hc, Int.toNat_natCast]
  cases hg : s.rows.getD i [] with
  | nil => exact .inl rfl
  | cons p row =>
    right
    dsimp only
    have hri : s.rows.getD i [] ∈ s.rows := getD_mem (by omega)
    rw [hg] at hri
    obtain ⟨j, hj, hj2⟩ := bucket p.2
    have hph := h.hash _ hri p List.mem_cons_self
    have hcj := h.cor j
    -- it waits with its bucket's core
    have hk : s.cor.getD j 0 = i := by
      refine Classical.byContradiction fun hne => ?_
      have h0 := h.one j hj2 i (by omega)
      rw [hg, cntOf_cons, if_pos hj] at h0
      have := (cntOf_bd row j).1
      omega
    have hw := h.ids j hj2
    rw [hk, Int.toNat_natCast, hg, idsOf_cons, if_pos hj] at hw
    refine ⟨p, j, idsOf row j, { s with rows := s.rows.set i row, cnt := s.cnt.set j (s.cnt.getD j 0 - 1) }, hj, hj2, hph, by rw [hj, Int.toNat_natCast, if_pos hk], hw, (h.wth j hj2 (by rw [hw]; exact List.cons_ne_nil _ _)).trans hk, ?_, ?_, rfl⟩
    · have hrow : ∀ x ∈ s.rows.set i row, x ∈ s.rows ∨ x = row := fun x hx => mem_set hx
      have hcl := h.cl
      have hrg : ∀ k, (s.rows.set i row).getD k [] = if i = k then row else s.rows.getD k [] := fun k => by
        by_cases e : i = k
        · subst e; rw [set_eq _ _ _ _ (by omega), if_pos rfl]
        · rw [set_ne _ _ _ _ _ e, if_neg e]
      refine ⟨h.n1, h.n8, h.m1, h.m256, h.on1, h.on8, h.onr, by show (s.rows.set _ _).length = _; rw [List.length_set]; exact hrl, fun x hx => ?_, fun x hx q hq => ?_, h.lostb, by show (s.cnt.set _ _).length = _; rw [List.length_set]; exact hcl, h.kl, h.cor, fun k hk' => ?_, fun k hk' => ?_, fun k hk' q hq => ?_, fun k hk' hne => ?_⟩
      · rcases hrow x hx with h1 | h1
        · exact h.len x h1
        · subst h1
          have := h.len _ hri
          show x.length ≤ s.most
          rw [List.length_cons] at this
          omega
      · rcases hrow x hx with h1 | h1
        · exact h.hash x h1 q hq
        · subst h1
          exact h.hash _ hri q (List.mem_cons_of_mem _ hq)
      · show (s.cnt.set j _).getD k 0 = cntOf ((s.rows.set i row).getD (s.cor.getD k 0).toNat []) k
        rw [hrg]
        by_cases e : j = k
        · subst e
          rw [set_eq _ _ _ _ (by omega), h.cnt j hj2, hk, Int.toNat_natCast, if_pos rfl, hg, cntOf_cons, if_pos hj]
          omega
        · rw [set_ne _ _ _ _ _ e, h.cnt k hk']
          by_cases e3 : i = (s.cor.getD k 0).toNat
          · rw [if_pos e3, ← e3, hg, cntOf_cons, if_neg (show ¬ p.2 % 256 = (k : Int) by omega)]
            omega
          · rw [if_neg e3]
      · show (if k = j then idsOf row j else wt k) = idsOf ((s.rows.set i row).getD (s.cor.getD k 0).toNat []) k
        rw [hrg]
        by_cases e : j = k
        · subst e
          rw [if_pos rfl, hk, Int.toNat_natCast, if_pos rfl]
        · rw [if_neg (Ne.symm e), h.ids k hk']
          by_cases e3 : i = (s.cor.getD k 0).toNat
          · rw [if_pos e3, ← e3, hg, idsOf_cons, if_neg (show ¬ p.2 % 256 = (k : Int) by omega)]
          · rw [if_neg e3]
      · show cntOf ((s.rows.set i row).getD q []) k = 0
        have h1 := h.one k hk' q hq
        rw [hrg]
        by_cases e3 : i = q
        · subst e3
          rw [if_pos rfl]
          rw [hg, cntOf_cons] at h1
          have := (cntOf_bd row k).1
          split at h1 <;> omega
        · rw [if_neg e3]; exact h1
      · refine h.wth k hk' fun e0 => hne ?_
        by_cases e : j = k
        · subst e
          rw [hw] at e0
          cases e0
        · show (if k = j then idsOf row j else wt k) = []
          rw [if_neg (Ne.symm e)]
          exact e0
    · show tot (s.rows.set i row) = _
      rw [tot_set _ _ _ (by omega), hg, List.length_cons]
      omega
theorem Al.cores (h : Al s wt at' K) (on : List Int) : Al (s.cores on).1 wt at' K ∧ (s.cores on).1.rows = s.rows ∧ (s.cores on).1.n = s.n := by
  unfold St.cores
  by_cases hc : 1 ≤ on.length ∧ upTo s.n on on.length
  · rw [if_pos hc]
    refine ⟨{ h with on1 := hc.1, on8 := upTo_len hc.2, onr := fun x hx => ?_ }, rfl, rfl⟩
    obtain ⟨k, hk, rfl⟩ := List.mem_iff_getElem.1 hx
    have := (hc.2 k hk).1
    rw [List.getD_eq_getElem?_getD, List.getElem?_eq_getElem hk] at this
    exact this
  · rw [if_neg hc]
    exact ⟨h, rfl, rfl⟩
theorem al_start (n most : Nat) (h1 : 1 ≤ n ∧ n ≤ 8) (h2 : 1 ≤ most ∧ most ≤ 256) : Al (fresh n most) (fun _ => []) (fun _ => 0) 0 ∧ tot (fresh n most).rows = 0 := by
  have hrep : ∀ row ∈ (fresh n most).rows, row = [] := fun row hr => List.eq_of_mem_replicate hr
  have hget : ∀ i, (fresh n most).rows.getD i [] = [] := fun i => by
    show (List.replicate n []).getD i [] = []
    rw [List.getD_eq_getElem?_getD, List.getElem?_replicate]
    split <;> rfl
  refine ⟨⟨h1.1, h1.2, h2.1, h2.2, by simp [fresh]; omega, by simp [fresh], fun x hx => ?_, by simp [fresh], fun row hr => by rw [hrep row hr]; exact Nat.zero_le _, fun row hr p hp => absurd hp (by rw [hrep row hr]; exact List.not_mem_nil), fun i => ?_, z256_len, z256_len, fun j => ?_, fun j hj => ?_, fun j hj => ?_, fun j hj i _ => ?_, fun j hj hne => absurd rfl hne⟩, ?_⟩
  · obtain ⟨j, hj, rfl⟩ := List.mem_map.1 hx
    rw [List.mem_range] at hj
    show 0 ≤ (j : Int) ∧ (j : Int) < (n : Int)
    omega
  · show 0 ≤ (List.replicate n (0 : Int)).getD i 0 ∧ (List.replicate n (0 : Int)).getD i 0 ≤ _
    rw [List.getD_eq_getElem?_getD, List.getElem?_replicate]
    split <;> simp
  · show 0 ≤ z256.getD j 0 ∧ z256.getD j 0 < (n : Int)
    rw [z_getD]; omega
  · show z256.getD j 0 = _
    rw [z_getD, hget]; rfl
  · rw [hget]; rfl
  · rw [hget]; rfl
  · show tot (List.replicate n []) = 0
    unfold tot
    rw [List.map_replicate]
    clear hrep hget h1
    induction n with
    | zero => rfl
    | succ n ih => rw [List.replicate_succ, List.sum_cons, ih]; rfl
end Go.Proofs.Ytggfjnicofgohaa.Sf
