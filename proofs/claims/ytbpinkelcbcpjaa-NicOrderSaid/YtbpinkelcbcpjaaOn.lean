import Derived.Test.YtbpinkelcbcpjaaMc
namespace Go.Proofs.Ytbpinkelcbcpjaa.Ni
open Go.RowKit Blk Go.Maps Go.ChangeMaps Go.Proofs.YtbpinkelcbcpjaaW.PrintWords
set_option linter.unusedVariables false

/-- The texts of one hash. -/
def ofH (h : Nat) (l : List Sl) : List ByteArray := (l.filter fun x => decide (x.1 = (h : Int))).map (·.2)
theorem ofH_snoc (h : Nat) (l : List Sl) (x : Sl) : ofH h (l ++ [x]) = if x.1 = (h : Int) then ofH h l ++ [x.2] else ofH h l := by
  unfold ofH
  rw [List.filter_append]
  by_cases e : x.1 = (h : Int) <;> simp [e]
theorem ofH_cons (h : Nat) (x : Sl) (l : List Sl) : ofH h (x :: l) = if x.1 = (h : Int) then x.2 :: ofH h l else ofH h l := by
  unfold ofH
  rw [List.filter_cons]
  by_cases e : x.1 = (h : Int) <;> simp [e]
/-- What waits, queue by queue (C), and hash by hash (wt); p: each hash's queue. -/
structure Vk (N : Nat) (p : Nat → Nat) (C : Nat → List Sl) (wt : Nat → List ByteArray) : Prop where
  inq : ∀ i, i < N → ∀ x ∈ C i, ∃ h : Nat, h < 4294967296 ∧ x.1 = (h : Int) ∧ p h = i
  wt : ∀ h, h < 4294967296 → wt h = ofH h (C (p h))
  pn : ∀ h, p h < N
section
variable {N : Nat} {p : Nat → Nat} {C : Nat → List Sl} {wt : Nat → List ByteArray}
theorem Vk.come (v : Vk N p C wt) (h : Nat) (hh : h < 4294967296) (t : ByteArray) : Vk N p (up2 C (p h) (C (p h) ++ [((h : Int), t)])) (fun k => if k = h then wt h ++ [t] else wt k) := by
  refine ⟨fun i hi x hx => ?_, fun k hk => ?_, v.pn⟩
  · by_cases e : i = p h
    · subst e
      rw [up2_same, List.mem_append] at hx
      rcases hx with hx | hx
      · exact v.inq _ hi x hx
      · rw [List.mem_singleton] at hx
        subst hx
        exact ⟨h, hh, rfl, rfl⟩
    · rw [up2_ne _ _ _ _ e] at hx
      exact v.inq i hi x hx
  · by_cases ek : k = h
    · subst ek
      rw [if_pos rfl, up2_same, ofH_snoc, if_pos rfl, v.wt k hk]
    · rw [if_neg ek, v.wt k hk]
      by_cases e : p k = p h
      · rw [e, up2_same, ofH_snoc, if_neg (by show ¬ ((h : Int) = (k : Int)); omega)]
      · rw [up2_ne _ _ _ _ e]
theorem Vk.head (v : Vk N p C wt) (i : Nat) (hi : i < N) (x : Sl) (rest : List Sl) (hC : C i = x :: rest) :
    ∃ h : Nat, h < 4294967296 ∧ x.1 = (h : Int) ∧ wt h = x.2 :: ofH h rest ∧ Vk N p (up2 C i rest) (fun k => if k = h then ofH h rest else wt k) := by
  obtain ⟨h, hh, ex, ep⟩ := v.inq i hi x (by rw [hC]; exact List.mem_cons_self)
  refine ⟨h, hh, ex, by rw [v.wt h hh, ep, hC, ofH_cons, if_pos ex], ⟨fun j hj y hy => ?_, fun k hk => ?_, v.pn⟩⟩
  · by_cases e : j = i
    · subst e
      rw [up2_same] at hy
      exact v.inq j hj y (by rw [hC]; exact List.mem_cons_of_mem _ hy)
    · rw [up2_ne _ _ _ _ e] at hy
      exact v.inq j hj y hy
  · by_cases ek : k = h
    · subst ek
      rw [if_pos rfl, ep, up2_same]
    · rw [if_neg ek, v.wt k hk]
      by_cases e : p k = i
      · rw [e, up2_same, hC, ofH_cons, if_neg (by rw [ex]; omega)]
      · rw [up2_ne _ _ _ _ e]
theorem vk_start (N : Nat) (p : Nat → Nat) (hp : ∀ h, p h < N) : Vk N p (fun _ => []) (fun _ => []) := ⟨fun i hi x hx => (by cases hx), fun h hh => rfl, hp⟩
end
/-- How many wait, of those that left tells. -/
def kx (x : Sl) : Lit := .int .u32 x.1
def cntL (C : Nat → List Sl) (left : Lit → Bool) : Nat → Int
  | 0 => 0
  | N + 1 => cntL C left N + (((C N).filter fun x => left (kx x)).length : Int)
def totC (C : Nat → List Sl) : Nat → Int
  | 0 => 0
  | N + 1 => totC C N + ((C N).length : Int)
theorem cntL_bd (C : Nat → List Sl) (left : Lit → Bool) (N : Nat) : 0 ≤ cntL C left N ∧ cntL C left N ≤ totC C N := by
  induction N with
  | zero => exact ⟨Int.le_refl _, Int.le_refl _⟩
  | succ N ih =>
    have := List.length_filter_le (fun x => left (kx x)) (C N)
    unfold cntL totC
    omega
theorem cntL_none (C : Nat → List Sl) (left : Lit → Bool) (N : Nat) (h : ∀ kl, left kl = false) : cntL C left N = 0 := by
  induction N with
  | zero => rfl
  | succ N ih =>
    unfold cntL
    rw [ih]
    simp [h]
theorem cntL_all (C : Nat → List Sl) (left : Lit → Bool) (N : Nat) (h : ∀ i, i < N → ∀ x ∈ C i, left (kx x) = true) : cntL C left N = totC C N := by
  induction N with
  | zero => rfl
  | succ N ih =>
    unfold cntL totC
    rw [ih fun i hi => h i (by omega), List.filter_eq_self.2 fun x hx => h N (by omega) x hx]
theorem totC_bd (C : Nat → List Sl) (N M : Nat) (h : ∀ i, i < N → (C i).length ≤ M) : 0 ≤ totC C N ∧ totC C N ≤ N * M := by
  induction N with
  | zero => exact ⟨Int.le_refl _, by show (0 : Int) ≤ _; omega⟩
  | succ N ih =>
    have h1 := ih fun i hi => h i (by omega)
    have h2 := h N (by omega)
    unfold totC
    rw [show ((N + 1 : Nat) : Int) * (M : Int) = N * M + M by rw [Int.natCast_add]; rw [Int.add_mul]; simp]
    omega
theorem filt_strike (left : Lit → Bool) (h : Nat) (hl : left (kj h) = true) (l : List Sl) : ((l.filter fun x => (left (kx x) && !(kx x).sameKey (kj h))).length : Int) = ((l.filter fun x => left (kx x)).length : Int) - ((ofH h l).length : Int) := by
  induction l with
  | nil => rfl
  | cons x l ih =>
    rw [ofH_cons, List.filter_cons, List.filter_cons]
    by_cases e : x.1 = (h : Int)
    · have ek : kx x = kj h := by unfold kx kj; rw [e]
      have e1 : (kj h).sameKey (kj h) = true := by simp [kj, Lit.sameKey]
      rw [if_pos e, ek, hl, e1]
      simp only [Bool.not_true, Bool.and_false, Bool.false_eq_true, if_false, if_true, List.length_cons]
      omega
    · have e1 : (kx x).sameKey (kj h) = false := by
        cases hs : (kx x).sameKey (kj h) with
        | false => rfl
        | true =>
          refine absurd ?_ e
          simp [kx, kj, Lit.sameKey] at hs
          exact hs
      rw [if_neg e, e1]
      simp only [Bool.not_false, Bool.and_true]
      by_cases e2 : left (kx x) = true
      · rw [if_pos e2, if_pos e2, List.length_cons, List.length_cons]
        omega
      · rw [if_neg e2, if_neg e2]
        exact ih
section
variable {N : Nat} {p : Nat → Nat} {C : Nat → List Sl} {wt : Nat → List ByteArray}
theorem Vk.other (v : Vk N p C wt) (h : Nat) (i : Nat) (hi : i < N) (hne : i ≠ p h) : ofH h (C i) = [] := by
  unfold ofH
  rw [List.filter_eq_nil_iff.2, List.map_nil]
  intro x hx
  obtain ⟨h', _, ex, ep⟩ := v.inq i hi x hx
  simp only [decide_eq_true_eq]
  intro e
  have : h = h' := by omega
  subst this
  exact hne ep.symm
theorem Vk.strike (v : Vk N p C wt) (left : Lit → Bool) (h : Nat) (hh : h < 4294967296) (hl : left (kj h) = true) : cntL C (fun z => left z && !z.sameKey (kj h)) N = cntL C left N - ((wt h).length : Int) := by
  have key : ∀ M, M ≤ N → cntL C (fun z => left z && !z.sameKey (kj h)) M = cntL C left M - (if p h < M then ((wt h).length : Int) else 0) := by
    intro M
    induction M with
    | zero => intro _; rw [if_neg (by omega)]; rfl
    | succ M ih =>
      intro hM
      have h1 := ih (by omega)
      have h2 := filt_strike left h hl (C M)
      unfold cntL
      rw [h1, h2]
      by_cases e : M = p h
      · subst e
        rw [if_neg (by omega), if_pos (by omega), v.wt h hh]
        omega
      · rw [v.other h M (by omega) e]
        have : (p h < M + 1) ↔ (p h < M) := by omega
        by_cases h3 : p h < M
        · rw [if_pos h3, if_pos (by omega)]
          show _ = _
          simp
          omega
        · rw [if_neg h3, if_neg (by omega)]
          simp
  rw [key N (Nat.le_refl _), if_pos (v.pn h)]
theorem Vk.has (v : Vk N p C wt) {w : World} {base mb n : Nat} {V : Nat → Value} {D : DataW Value} (hb : Bk w base mb n V wt D) : cntL C (Maps.has D) N = totC C N := by
  refine cntL_all _ _ _ fun i hi x hx => ?_
  obtain ⟨h, hh, ex, ep⟩ := v.inq i hi x hx
  have ek : kx x = kj h := by unfold kx kj; rw [ex]
  rw [ek]
  cases hD : Maps.has D (kj h) with
  | true => rfl
  | false =>
    have h1 := hb.at' h hh
    rw [atKey_of_not_has hD] at h1
    have hv : V h = .slice none 0 0 := by simpa using h1.symm
    have hq := hb.q h hh
    rw [hv] at hq
    obtain ⟨A, c, e, _⟩ := q_slice hq
    injection e with _ e2 _
    have hw := v.wt h hh
    rw [ep] at hw
    have hmem : x.2 ∈ ofH h (C i) := by
      unfold ofH
      exact List.mem_map.2 ⟨x, List.mem_filter.2 ⟨hx, by simpa using ex⟩, rfl⟩
    rw [← hw, List.length_eq_zero_iff.1 e2.symm] at hmem
    cases hmem
end
structure Sv where
  A : Option Addr
  n : Nat
  c : Nat
/-- What the range's step hands on is a hash's slice. -/
theorem Bk.come {w : World} {base mb n : Nat} {V : Nat → Value} {wt : Nat → List ByteArray} {D : DataW Value} (h : Bk w base mb n V wt D) {x : Int} {kl : Lit} {v : Value} {y : DataW Value × List MemPlace} (hk : keyOf Try.prog 32 (.int .u32 x) = some kl) (hh : Maps.has D kl = true) (hv : RV v = some y) (hat : ∀ zd, D.atKey kl zd = y.1) :
    ∃ j c A, j < 4294967296 ∧ kl = kj j ∧ v = .slice A (wt j).length c := by
  obtain ⟨x', e1, rfl, _⟩ := keyOf_int_inv Try.underlying32 hk
  obtain ⟨j, hj, hs⟩ := h.keys _ hh
  have e2 : (Lit.int .u32 x') = kj j := by
    simp [kj, Lit.sameKey] at hs ⊢
    exact hs
  rw [e2] at hat
  obtain ⟨A, n', c', rfl, rfl⟩ := RV_inv hv
  have h1 := h.at' j hj
  rw [hat] at h1
  have h2 : V j = .slice A n' c' := by simpa using h1.symm
  have hq := h.q j hj
  rw [h2] at hq
  obtain ⟨A', c2, e, _⟩ := q_slice hq
  injection e with e3 e4 e5
  subst e4
  exact ⟨j, c', A, hj, e2, rfl⟩
/-- The card's own state, as the law sees it. -/
structure Oq (s : St) (N M : Nat) (p : Nat → Nat) (C : Nat → List Sl) : Prop where
  n : s.qs.length = N
  m : s.size = M
  p : ∀ h : Nat, s.pick (h : Int) = (p h : Int)
  c : ∀ i : Nat, i < N → (s.qu i).ci = C i
section
variable {s : St} {N M : Nat} {p : Nat → Nat} {C : Nat → List Sl}
theorem Oq.is (o : Oq s N M p C) (i : Nat) (hi : i < N) : s.is i := by unfold St.is; rw [o.n]; omega
theorem Oq.an (o : Oq s N M p C) (ok : s.Ok) (i : Nat) (hi : i < N) : (s.qu i).an = (C i).length ∧ (C i).length ≤ M ∧ (s.qu i).on ≤ M ∧ (s.qu i).Ok s.size := by
  have hok := (ok.at' i (by rw [o.n]; exact hi)).2
  have h1 := hok.ci_len
  rw [o.c i hi] at h1
  have h2 := hok.na
  have h3 := hok.no
  rw [o.m] at h2 h3
  exact ⟨h1.symm, by omega, h3, hok⟩
theorem Oq.waits (o : Oq s N M p C) (ok : s.Ok) (i : Nat) (hi : i < N) : s.waits i = ((C i).length : Int) := by
  unfold St.waits
  rw [if_pos (o.is i hi), (o.an ok i hi).1]
theorem Oq.sends (o : Oq s N M p C) (ok : s.Ok) (i : Nat) (hi : i < N) : ∃ k : Nat, s.sends i = (k : Int) ∧ k ≤ M := by
  unfold St.sends
  rw [if_pos (o.is i hi)]
  exact ⟨_, rfl, (o.an ok i hi).2.2.1⟩
theorem setq_pick (s : St) (i : Nat) (q : Qu) (h : Int) : (s.setq i q).pick h = s.pick h := rfl
theorem Oq.come (o : Oq s N M p C) (ok : s.Ok) (hp : ∀ h, p h < N) (h : Nat) (t : ByteArray) :
    ((s.come ((h : Int), t)).2 = 6 ∧ Oq (s.come ((h : Int), t)).1 N M p C ∧ s.waits (p h) = M ∧ (s.come ((h : Int), t)).1.waits (p h) = M) ∨
    ((s.come ((h : Int), t)).2 = 0 ∧ Oq (s.come ((h : Int), t)).1 N M p (up2 C (p h) (C (p h) ++ [((h : Int), t)]))) := by
  obtain ⟨a1, a2, a3, a4⟩ := o.an ok (p h) (hp h)
  by_cases hf : (s.qu (p h)).an = s.size
  · left
    have e : s.come ((h : Int), t) = ({ s with came := (s.came + 1) % 18446744073709551616 }, 6) := by
      unfold St.come
      rw [show s.pick ((h : Int), t).1 = (p h : Int) from o.p h, if_pos hf]
    have hw : s.waits (p h) = M := by
      unfold St.waits
      rw [if_pos (o.is _ (hp h)), hf, o.m]
    rw [e]
    exact ⟨rfl, ⟨o.n, o.m, o.p, o.c⟩, hw, hw⟩
  · right
    have e : s.come ((h : Int), t) = (s.setq (p h) ((s.qu (p h)).put s.size ((h : Int), t)), 0) := by
      unfold St.come
      rw [show s.pick ((h : Int), t).1 = (p h : Int) from o.p h, if_neg hf, Int.toNat_natCast]
    rw [e]
    have hna := a4.na
    refine ⟨rfl, ⟨by rw [setq_len]; exact o.n, o.m, o.p, fun i hi => ?_⟩⟩
    rw [setq_qu _ _ _ _ (by rw [o.n]; exact hp h)]
    by_cases ei : p h = i
    · subst ei
      rw [if_pos rfl, up2_same, a4.put (by omega), o.c _ hi]
    · rw [if_neg ei, up2_ne _ _ _ _ (Ne.symm ei), o.c i hi]
theorem Oq.poll (o : Oq s N M p C) (ok : s.Ok) (x n : Int) :
    (s.poll x n).1 = s ∧ (s.poll x n).2.1 = [] ∨
    ∃ (i k : Nat), i < N ∧ k ≤ (C i).length ∧ (s.poll x n).2.1 = (C i).take k ∧ Oq (s.poll x n).1 N M p (up2 C i ((C i).drop k)) := by
  by_cases hc : s.is x ∧ 1 ≤ n ∧ n ≤ 64
  · right
    obtain ⟨i, rfl⟩ := Int.eq_ofNat_of_zero_le hc.1.1
    have hi : i < N := by have := hc.1.2; rw [o.n] at this; omega
    obtain ⟨a1, a2, a3, a4⟩ := o.an ok i hi
    have hle := tk_le n (s.qu i).an
    have e : s.poll i n = (s.setq i { (s.qu i).poll s.size (tk n (s.qu i).an) with armed := decide ((tk n (s.qu i).an : Int) < n) }, cyc (s.qu i).a (s.qu i).af (tk n (s.qu i).an), 0) := by
      unfold St.poll
      rw [if_pos hc, Int.toNat_natCast]
    obtain ⟨g1, g2⟩ := a4.poll (tk n (s.qu i).an) hle
    rw [e]
    refine ⟨i, tk n (s.qu i).an, hi, by omega, by rw [← o.c i hi]; exact g1, ⟨by rw [setq_len]; exact o.n, o.m, o.p, fun j hj => ?_⟩⟩
    rw [setq_qu _ _ _ _ (by rw [o.n]; exact hi)]
    by_cases ej : i = j
    · subst ej
      rw [if_pos rfl, up2_same, ← o.c i hi]
      exact g2
    · rw [if_neg ej, up2_ne _ _ _ _ (Ne.symm ej), o.c j hj]
  · left
    unfold St.poll
    rw [if_neg hc]
    exact ⟨rfl, rfl⟩
theorem Oq.send (o : Oq s N M p C) (ok : s.Ok) (x : Int) (t : ByteArray) : Oq (s.send x t).1 N M p C := by
  unfold St.send
  by_cases hc : s.is x
  · rw [if_pos hc]
    obtain ⟨i, rfl⟩ := Int.eq_ofNat_of_zero_le hc.1
    have hi : i < N := by have := hc.2; rw [o.n] at this; omega
    split
    · exact ⟨o.n, o.m, o.p, o.c⟩
    · rw [Int.toNat_natCast]
      refine ⟨by rw [setq_len]; exact o.n, o.m, o.p, fun j hj => ?_⟩
      show ((s.setq i _).qu j).ci = _
      rw [setq_qu _ _ _ _ (by rw [o.n]; exact hi)]
      by_cases ej : i = j
      · subst ej
        rw [if_pos rfl]
        exact o.c i hi
      · rw [if_neg ej, o.c j hj]
  · rw [if_neg hc]
    exact o
theorem oq_start (N M : Nat) (ok : (fresh N M).Ok) : ∃ p : Nat → Nat, (∀ h, p h < N) ∧ Oq (fresh N M) N M p (fun _ => []) := by
  have hl : (fresh N M).qs.length = N := List.length_replicate ..
  refine ⟨fun h => ((fresh N M).pick (h : Int)).toNat, fun h => ?_, ⟨hl, rfl, fun h => ?_, fun i hi => ?_⟩⟩
  · obtain ⟨i, hi, hi2⟩ := ok.pick (h : Int)
    show ((fresh N M).pick (h : Int)).toNat < N
    rw [hi, Int.toNat_natCast]
    omega
  · obtain ⟨i, hi, hi2⟩ := ok.pick (h : Int)
    show _ = (((fresh N M).pick (h : Int)).toNat : Int)
    rw [hi, Int.toNat_natCast]
  · rw [fresh_qu _ _ _ hi]
    exact cyc_zero _ _
end
end Go.Proofs.Ytbpinkelcbcpjaa.Ni
