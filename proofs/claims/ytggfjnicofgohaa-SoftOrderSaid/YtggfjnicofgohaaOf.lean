import Derived.Test.YtggfjnicofgohaaOd
import Derived.Maps.RangeWalk
namespace Go.Proofs.Ytggfjnicofgohaa.Sf
open Go.RowKit Blk Go.Maps Go.ChangeMaps Go.Proofs.YtggfjnicofgohaaW.PrintWords
set_option linter.unusedVariables false

/-- How many wait with the first k cores. -/
def ns (s : St) (k : Nat) : Int := ((s.rows.take k).map fun r => (r.length : Int)).sum
section
variable {s : St} {wt : Nat → List Int} {at' : Nat → Int} {K : Nat}
theorem ns_succ (h : Al s wt at' K) {k : Nat} (hk : k < s.n) : ns s (k + 1) = ns s k + s.len k := by
  have hk2 : k < s.rows.length := by rw [h.rowl]; exact hk
  unfold ns
  rw [List.take_succ_eq_append_getElem hk2, List.map_append, List.sum_append]
  congr 1
  show ((s.rows[k].length : Int)) + 0 = _
  unfold St.len
  rw [if_neg (by omega), Int.toNat_natCast, List.getD_eq_getElem?_getD, List.getElem?_eq_getElem hk2]
  simp
theorem ns_all (h : Al s wt at' K) : ns s s.n = tot s.rows := by
  unfold ns tot
  rw [← h.rowl, List.take_length]
theorem len_bd (h : Al s wt at' K) (k : Int) : 0 ≤ s.len k ∧ s.len k ≤ 256 := by
  unfold St.len
  split
  · omega
  · have h3 := getD_rows h.len k.toNat
    have h4 := h.m256
    omega
theorem ns_bd (h : Al s wt at' K) {k : Nat} (hk : k ≤ s.n) : 0 ≤ ns s k ∧ ns s k ≤ k * 256 := by
  induction k with
  | zero => exact ⟨Int.le_refl _, Int.le_refl _⟩
  | succ k ih =>
    have h1 := ih (by omega)
    have h2 := ns_succ h (show k < s.n by omega)
    have h3 := len_bd h k
    omega
end
/-- A slice's three parts. -/
structure Sl where
  A : Option Addr
  n : Nat
  c : Nat
/-- What waits in the buckets that the range has not come to. -/
def LS (wt : Nat → List Int) (left : Lit → Bool) : Int := ((List.range 256).map fun j => if left (kj j) then ((wt j).length : Int) else 0).sum
theorem sum_le (f g : Nat → Int) (l : List Nat) (h : ∀ j ∈ l, f j ≤ g j) : (l.map f).sum ≤ (l.map g).sum := by
  induction l with
  | nil => exact Int.le_refl _
  | cons a l ih =>
    simp only [List.map_cons, List.sum_cons]
    have h1 := h a List.mem_cons_self
    have h2 := ih fun j hj => h j (List.mem_cons_of_mem _ hj)
    omega
theorem sum_ge0 (f : Nat → Int) (l : List Nat) (h : ∀ j ∈ l, 0 ≤ f j) : 0 ≤ (l.map f).sum := by
  induction l with
  | nil => exact Int.le_refl _
  | cons a l ih =>
    simp only [List.map_cons, List.sum_cons]
    have h1 := h a List.mem_cons_self
    have h2 := ih fun j hj => h j (List.mem_cons_of_mem _ hj)
    omega
theorem LS_bd (wt : Nat → List Int) (left : Lit → Bool) : 0 ≤ LS wt left ∧ LS wt left ≤ TW wt := by
  refine ⟨sum_ge0 _ _ fun j _ => ?_, sum_le _ _ _ fun j _ => ?_⟩ <;> split <;> omega
theorem LS_none (wt : Nat → List Int) (left : Lit → Bool) (h : ∀ kl, left kl = false) : LS wt left = 0 := by
  unfold LS
  simp only [h, Bool.false_eq_true, if_false]
  exact TW_start
theorem LS_strike (wt : Nat → List Int) (left : Lit → Bool) (j : Nat) (hj : j < 256) (hl : left (kj j) = true) : LS wt (fun z => left z && !z.sameKey (kj j)) = LS wt left - ((wt j).length : Int) := by
  have e : LS wt (fun z => left z && !z.sameKey (kj j)) = (((List.range 256).map fun k => if left (kj k) then ((wt k).length : Int) else 0).set j 0).sum := by
    unfold LS
    congr 1
    refine List.ext_getElem (by simp) fun i h1 h2 => ?_
    rw [List.getElem_set]
    simp only [List.getElem_map, List.getElem_range]
    by_cases e : j = i
    · subst e
      rw [if_pos rfl, if_neg]
      simp [kj, Lit.sameKey]
    · rw [if_neg e]
      have : (kj i).sameKey (kj j) = false := by
        have := kj_ne (Ne.symm e)
        cases h : (kj i).sameKey (kj j) with
        | false => rfl
        | true =>
          refine absurd ?_ this
          simp [kj, Lit.sameKey] at h ⊢
          omega
      rw [this]
      simp
  rw [e, sum_set _ _ _ (by simpa using hj)]
  unfold LS
  rw [List.getD_eq_getElem?_getD, List.getElem?_map, List.getElem?_range hj]
  simp [hl]
theorem LS_has {w : World} {base mb n : Nat} {V : Nat → Value} {wt : Nat → List Int} {D : DataW Value} (h : Bk w base mb n V wt D) : LS wt (Maps.has D) = TW wt := by
  unfold LS TW
  congr 1
  refine List.map_congr_left fun j hj => ?_
  rw [List.mem_range] at hj
  cases hh : Maps.has D (kj j) with
  | true => rfl
  | false =>
    have h1 := h.at' j hj
    rw [atKey_of_not_has hh] at h1
    have hv : V j = .slice none 0 0 := by simpa using h1.symm
    have hq := h.q j hj
    rw [hv] at hq
    obtain ⟨A, c, e, _⟩ := q_slice hq
    have : (wt j).length = 0 := by injection e with _ e2 _; exact e2.symm
    rw [this]
    rfl
/-- What the range's step hands on is a bucket's slice. -/
theorem Bk.come {w : World} {base mb n : Nat} {V : Nat → Value} {wt : Nat → List Int} {D : DataW Value} (h : Bk w base mb n V wt D) {x : Int} {kl : Lit} {v : Value} {y : DataW Value × List MemPlace} (hk : keyOf Try.prog 31 (.int .u32 x) = some kl) (hh : Maps.has D kl = true) (hv : RV v = some y) (hat : ∀ zd, D.atKey kl zd = y.1) :
    ∃ j c A, j < 256 ∧ kl = kj j ∧ v = .slice A (wt j).length c := by
  obtain ⟨x', e1, rfl, _⟩ := keyOf_int_inv Try.underlying31 hk
  obtain ⟨j, hj, hs⟩ := h.keys _ hh
  have e2 : (Lit.int .u32 x') = kj j := by
    simp [kj, Lit.sameKey] at hs ⊢
    exact hs
  rw [e2] at hat
  obtain ⟨A, n', c', rfl, rfl⟩ := RV_inv hv
  have h1 := h.at' j hj
  rw [hat] at h1
  have h2 : V j = .slice A n' c' := by simpa using h1.symm
  have hq := h.q j hj
  rw [h2] at hq
  obtain ⟨A', c2, e, _⟩ := q_slice hq
  injection e with e3 e4 e5
  subst e4
  exact ⟨j, c', A, hj, e2, rfl⟩
end Go.Proofs.Ytggfjnicofgohaa.Sf
