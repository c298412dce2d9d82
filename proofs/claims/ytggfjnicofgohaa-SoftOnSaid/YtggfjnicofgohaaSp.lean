import Derived.Test.YtggfjnicofgohaaSi
import Derived.Maps.OwnOps
import Derived.WideShapes
namespace Go.Proofs.Ytggfjnicofgohaa.Sf
open Go.RowKit Blk Go.Maps Go.ChangeMaps Go.Proofs.YtggfjnicofgohaaW.PrintWords
set_option linter.unusedVariables false

/-! A map's keys. -/
def Keys (D : DataW Nat) (ks : List Int) : Prop := ∃ l, D = .map l ∧ (l.map (·.1)).Perm (ks.map (Lit.int .i64))
theorem keys_start : Keys (.map []) [] := ⟨[], rfl, List.Perm.nil⟩
theorem same_int (a b : Int) : (Lit.int .i64 a).sameKey (.int .i64 b) = (a == b) := by rw [Bool.eq_iff_iff]; simp [Lit.sameKey]
theorem not_int (k : Int) (p : Lit × DataW Nat) : notKey (.int .i64 k) p = !(p.1.sameKey (.int .i64 k)) := rfl
theorem filter_keys (l : List (Lit × DataW Nat)) (k : Int) : (l.filter (notKey (.int .i64 k))).map (·.1) = (l.map (·.1)).filter (fun x => !(x.sameKey (.int .i64 k))) := by
  rw [List.filter_map]
  rfl
theorem put_perm {l : List (Lit × DataW Nat)} {ks : List Int} (h : (l.map (·.1)).Perm (ks.map (Lit.int .i64))) (k : Int) (v : DataW Nat) :
    ((putKey (.int .i64 k) v l).map (·.1)).Perm ((k :: ks.filter (fun x => !(x == k))).map (Lit.int .i64)) := by
  refine ((Go.WideShapes.insert_perm (Lit.int .i64 k, v) _).map (·.1)).trans ?_
  simp only [List.map_cons]
  refine List.Perm.cons _ ?_
  rw [filter_keys]
  refine (h.filter _).trans ?_
  rw [List.filter_map]
  refine List.Perm.of_eq ?_
  congr 1
  refine List.filter_congr fun x _ => ?_
  simp only [Function.comp_apply, same_int]
theorem keys_put {D : DataW Nat} {ks : List Int} (h : Keys D ks) (k : Int) (v : DataW Nat) : Keys (D.put (.int .i64 k) v) (k :: ks.filter (fun x => !(x == k))) := by
  obtain ⟨l, rfl, hp⟩ := h
  exact ⟨_, DataW.put_eq _ _ _, put_perm hp k v⟩
theorem keys_perm {D : DataW Nat} {ks ks' : List Int} (h : Keys D ks) (hp : ks.Perm ks') : Keys D ks' := by
  obtain ⟨l, e, h1⟩ := h
  exact ⟨l, e, h1.trans (hp.map _)⟩
theorem keys_new {D : DataW Nat} {ks : List Int} (h : Keys D ks) (k : Int) (v : DataW Nat) (hk : k ∉ ks) : Keys (D.put (.int .i64 k) v) (ks ++ [k]) := by
  refine keys_perm (keys_put h k v) ?_
  rw [List.filter_eq_self.2 (fun x hx => by simp; rintro rfl; exact hk hx)]
  exact (List.perm_append_singleton k ks).symm
theorem keys_old' {D : DataW Nat} {ks : List Int} {k : Int} (h2 : Keys D (ks ++ [k])) (v : DataW Nat) (hk : k ∉ ks) : Keys (D.put (.int .i64 k) v) (ks ++ [k]) := by
  refine keys_perm (keys_put h2 k v) ?_
  rw [List.filter_append, List.filter_eq_self.2 (fun x hx => by simp; rintro rfl; exact hk hx)]
  simp
  exact (List.perm_append_singleton k ks).symm
theorem keys_len {w : World} {R : Value → Option (DataW Nat × List MemPlace)} {b n : Nat} {D : DataW Nat} {ks : List Int} (h : w.ownsMap Try.prog 3 R b n D) (hk : Keys D ks) : ∃ es clock, w.heap[b]? = some (.map es clock) ∧ es.size = ks.length := by
  obtain ⟨es, clock, hb, F, hn, e⟩ := h
  obtain ⟨l, e2, hp⟩ := hk
  refine ⟨es, clock, hb, ?_⟩
  rw [e2] at e
  have := hp.length_eq
  simp only [List.length_map] at this
  rw [← this]
  injection e with e
  rw [e, length_sorted]
  simp
/-! The list of what is on. -/
def bits (t : Nat → Bool) (i : Nat) : List Int := ((List.range i).filter t).map fun j : Nat => (j : Int)
theorem bits_succ (t : Nat → Bool) (i : Nat) : bits t (i + 1) = if t i then bits t i ++ [(i : Int)] else bits t i := by
  unfold bits
  rw [List.range_succ, List.filter_append]
  by_cases h : t i = true
  · simp [h]
  · simp [h]
theorem bits_len (t : Nat → Bool) (i : Nat) : (bits t i).length ≤ i := by
  unfold bits
  rw [List.length_map]
  exact Nat.le_trans (List.length_filter_le _ _) (by simp)
theorem bits_mem (t : Nat → Bool) (i : Nat) (x : Int) (h : x ∈ bits t i) : ∃ j : Nat, x = j ∧ j < i ∧ t j = true := by
  unfold bits at h
  obtain ⟨j, hj, rfl⟩ := List.mem_map.1 h
  rw [List.mem_filter, List.mem_range] at hj
  exact ⟨j, rfl, hj⟩
theorem bits_pair (t : Nat → Bool) (i : Nat) : (bits t i).Pairwise (· < ·) := by
  unfold bits
  rw [List.pairwise_map]
  exact (List.pairwise_lt_range.filter _).imp (fun h => by omega)
theorem bits_up (t : Nat → Bool) (i : Nat) : upTo i (bits t i) (bits t i).length := by
  intro j hj
  have e : (bits t i).getD j 0 = (bits t i)[j] := by rw [List.getD_eq_getElem?_getD, List.getElem?_eq_getElem hj]; rfl
  obtain ⟨m, hm, hm1, _⟩ := bits_mem t i _ (List.getElem_mem hj)
  refine ⟨by rw [e, hm]; omega, ?_⟩
  by_cases h0 : j = 0
  · exact .inl h0
  · refine .inr ?_
    have hj' : j - 1 < (bits t i).length := by omega
    rw [e, List.getD_eq_getElem?_getD, List.getElem?_eq_getElem hj']
    exact List.pairwise_iff_getElem.1 (bits_pair t i) (j - 1) j hj' hj (by omega)
/-- The place of a core for the k-th of 64 hashes. -/
def plc (L k : Nat) : Nat := k * L / 64
theorem plc_lt {L k : Nat} (hL : 1 ≤ L) (hk : k < 64) : plc L k < L := by
  unfold plc
  rw [Nat.div_lt_iff_lt_mul (by decide), Nat.mul_comm L 64]
  exact Nat.mul_lt_mul_of_pos_right hk hL
theorem plc_up {L k : Nat} (hL : L ≤ 64) : plc L (k + 1) = plc L k ∨ plc L (k + 1) = plc L k + 1 := by
  unfold plc
  rw [Nat.add_mul, Nat.one_mul]
  omega
theorem plc_0 (L : Nat) : plc L 0 = 0 := by unfold plc; simp
theorem plc_63 {L : Nat} (h1 : 1 ≤ L) (hL : L ≤ 64) : plc L 63 + 1 = L := by unfold plc; omega
theorem core_plc (k : Nat) (on : List Int) : coreOf ((k : Int) * 67108864) on = on.getD (plc on.length k) 0 := by
  unfold coreOf plc
  congr 1
  rw [Int.mul_right_comm, show (k : Int) * (on.length : Int) = ((k * on.length : Nat) : Int) by push_cast; rfl]
  omega
end Go.Proofs.Ytggfjnicofgohaa.Sf
