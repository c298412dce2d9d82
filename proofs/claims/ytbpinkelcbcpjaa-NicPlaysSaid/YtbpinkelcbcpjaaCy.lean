import Derived.Test.YtbpinkelcbcpjaaNo
namespace Go.Proofs.Ytbpinkelcbcpjaa.Ni
open Go.RowKit Blk Go.Proofs.YtbpinkelcbcpjaaW.PrintWords
set_option linter.unusedVariables false

theorem mod_two (a b n : Nat) (ha : a < n) (hb : b ≤ n) : (a + b) % n = if a + b < n then a + b else a + b - n := by
  split
  · exact Nat.mod_eq_of_lt (by assumption)
  · rw [Nat.mod_eq_sub_mod (by omega)]
    exact Nat.mod_eq_of_lt (by omega)
section
variable {α : Type}
theorem cyc_at (l : List α) (fr k i : Nat) (h1 : fr < l.length) (h2 : k ≤ l.length) (hi : i < k) : (cyc l fr k)[i]? = l[(fr + i) % l.length]? := by
  unfold cyc
  rw [mod_two _ _ _ h1 (by omega)]
  by_cases h : fr + i < l.length
  · rw [if_pos h, List.getElem?_append_left (by rw [List.length_take, List.length_drop]; omega), List.getElem?_take_of_lt hi, List.getElem?_drop]
  · rw [if_neg h, List.getElem?_append_right (by rw [List.length_take, List.length_drop]; omega), List.length_take, List.length_drop, List.getElem?_take_of_lt (by omega)]
    congr 1
    omega
/-- One more, last. -/
theorem cyc_put (l : List α) (fr n : Nat) (x : α) (h1 : fr < l.length) (h2 : n < l.length) : cyc (l.set ((fr + n) % l.length) x) fr (n + 1) = cyc l fr n ++ [x] := by
  have hl : (l.set ((fr + n) % l.length) x).length = l.length := List.length_set
  have hcl := cyc_len l fr n h1 (by omega)
  refine List.ext_getElem? fun i => ?_
  by_cases hi : i < n
  · rw [cyc_at _ _ _ _ (by rw [hl]; exact h1) (by rw [hl]; omega) (by omega), hl, List.getElem?_append_left (by omega), cyc_at _ _ _ _ h1 (by omega) hi, List.getElem?_set_ne]
    rw [mod_two _ _ _ h1 (by omega), mod_two _ _ _ h1 (by omega)]
    split <;> split <;> omega
  · by_cases e : i = n
    · subst e
      have hm : (fr + i) % l.length < l.length := Nat.mod_lt _ (by omega)
      rw [cyc_at _ _ _ _ (by rw [hl]; exact h1) (by rw [hl]; omega) (by omega), hl, List.getElem?_set_self hm, List.getElem?_append_right (by omega), hcl, Nat.sub_self]
      rfl
    · rw [List.getElem?_eq_none (by rw [cyc_len _ _ _ (by rw [hl]; exact h1) (by rw [hl]; omega)]; omega), List.getElem?_eq_none (by rw [List.length_append, hcl]; show n + 1 ≤ i; omega)]
theorem cyc_take (l : List α) (fr n k : Nat) (h1 : fr < l.length) (h2 : n ≤ l.length) (hk : k ≤ n) : cyc l fr k = (cyc l fr n).take k := by
  refine List.ext_getElem? fun i => ?_
  by_cases hi : i < k
  · rw [cyc_at _ _ _ _ h1 (by omega) hi, List.getElem?_take_of_lt hi, cyc_at _ _ _ _ h1 h2 (by omega)]
  · rw [List.getElem?_eq_none (by rw [cyc_len _ _ _ h1 (by omega)]; omega), List.getElem?_eq_none (by rw [List.length_take]; omega)]
theorem cyc_drop (l : List α) (fr n k : Nat) (h1 : fr < l.length) (h2 : n ≤ l.length) (hk : k ≤ n) : cyc l ((fr + k) % l.length) (n - k) = (cyc l fr n).drop k := by
  have hm : (fr + k) % l.length < l.length := Nat.mod_lt _ (by omega)
  refine List.ext_getElem? fun i => ?_
  by_cases hi : i < n - k
  · rw [cyc_at _ _ _ _ hm (by omega) hi, List.getElem?_drop, cyc_at _ _ _ _ h1 h2 (by omega)]
    congr 1
    rw [Nat.mod_add_mod, Nat.add_assoc]
  · rw [List.getElem?_eq_none (by rw [cyc_len _ _ _ hm (by omega)]; omega), List.getElem?_eq_none (by rw [List.length_drop, cyc_len _ _ _ h1 h2]; omega)]
end
/-- What waits in a queue, what goes. -/
def Qu.ci (q : Qu) : List Sl := cyc q.a q.af q.an
def Qu.co (q : Qu) : List ByteArray := cyc q.o q.of q.on
/-- A queue that may be. -/
structure Qu.Ok (q : Qu) (size : Nat) : Prop where
  la : q.a.length = size
  lo : q.o.length = size
  fa : q.af < size
  na : q.an ≤ size
  fo : q.of < size
  no : q.on ≤ size
theorem QAt.ok {w : World} {size qb ib ob : Nat} {q : Qu} (h : QAt w size qb ib ob q) : q.Ok size := ⟨h.la, h.lo, h.fa, h.na, h.fo, h.no⟩
section
variable {q : Qu} {size : Nat}
theorem Qu.Ok.ci_len (h : q.Ok size) : q.ci.length = q.an := cyc_len _ _ _ (by rw [h.la]; exact h.fa) (by rw [h.la]; exact h.na)
theorem Qu.Ok.co_len (h : q.Ok size) : q.co.length = q.on := cyc_len _ _ _ (by rw [h.lo]; exact h.fo) (by rw [h.lo]; exact h.no)
theorem Qu.Ok.put (h : q.Ok size) (hn : q.an < size) (x : Sl) : (q.put size x).ci = q.ci ++ [x] := by
  have := cyc_put q.a q.af q.an x (by rw [h.la]; exact h.fa) (by rw [h.la]; exact hn)
  rw [h.la] at this
  exact this
theorem Qu.Ok.send (h : q.Ok size) (hn : q.on < size) (x : ByteArray) : (q.send size x).co = q.co ++ [x] := by
  have := cyc_put q.o q.of q.on x (by rw [h.lo]; exact h.fo) (by rw [h.lo]; exact hn)
  rw [h.lo] at this
  exact this
theorem Qu.Ok.poll (h : q.Ok size) (k : Nat) (hk : k ≤ q.an) : cyc q.a q.af k = q.ci.take k ∧ (q.poll size k).ci = q.ci.drop k := by
  have h1 : q.af < q.a.length := by rw [h.la]; exact h.fa
  have h2 : q.an ≤ q.a.length := by rw [h.la]; exact h.na
  refine ⟨cyc_take _ _ _ _ h1 h2 hk, ?_⟩
  have := cyc_drop _ _ _ _ h1 h2 hk
  rw [h.la] at this
  exact this
theorem Qu.Ok.gone (h : q.Ok size) (k : Nat) (hk : k ≤ q.on) : cyc q.o q.of k = q.co.take k ∧ (q.gone size k).co = q.co.drop k := by
  have h1 : q.of < q.o.length := by rw [h.lo]; exact h.fo
  have h2 : q.on ≤ q.o.length := by rw [h.lo]; exact h.no
  refine ⟨cyc_take _ _ _ _ h1 h2 hk, ?_⟩
  have := cyc_drop _ _ _ _ h1 h2 hk
  rw [h.lo] at this
  exact this
end
/-- What a card's state must be. -/
structure St.Ok (s : St) : Prop where
  q : ∀ (i : Nat) (q : Qu), s.qs[i]? = some q → q.Ok s.size
  n1 : 1 ≤ s.qs.length
  n8 : s.qs.length ≤ 8
  s1 : 1 ≤ s.size
  s8 : s.size ≤ 256
  tl : s.tab.length = 128
  tr : ∀ x ∈ s.tab, 0 ≤ x ∧ x < s.qs.length
theorem At.ok {w : World} {base top b : Nat} {L : Lay} {s : St} (h : At w base top b L s) : s.Ok := ⟨fun i q hq => (h.q i q hq).ok, h.n1, h.n8, h.s1, h.s8, h.tl, h.tr⟩
theorem Own.ok {w0 w : World} {top b : Nat} {s : St} (h : Own w0 top b s w) : s.Ok := by
  obtain ⟨base, L, _, hA, _⟩ := h.is
  exact hA.ok
theorem St.Ok.pick {s : St} (h : s.Ok) (hash : Int) : ∃ i : Nat, s.pick hash = i ∧ i < s.qs.length := by
  obtain ⟨j, hj⟩ := Int.eq_ofNat_of_zero_le (show 0 ≤ hash % 128 by omega)
  have hj2 : j < 128 := by omega
  have hp : s.pick hash = s.tab.getD j 0 := by unfold St.pick; rw [hj, Int.toNat_natCast]
  have hm : s.tab.getD j 0 ∈ s.tab := by
    rw [List.getD_eq_getElem?_getD, List.getElem?_eq_getElem (by rw [h.tl]; exact hj2)]
    exact List.getElem_mem _
  obtain ⟨r1, r2⟩ := h.tr _ hm
  obtain ⟨i, hi⟩ := Int.eq_ofNat_of_zero_le r1
  exact ⟨i, hp.trans hi, by omega⟩
theorem St.Ok.at' {s : St} (h : s.Ok) (i : Nat) (hi : i < s.qs.length) : s.qs[i]? = some (s.qu i) ∧ (s.qu i).Ok s.size := by
  have e := List.getElem?_eq_getElem hi
  have := qu_of e
  rw [this]
  exact ⟨e, h.q i _ e⟩
theorem setq_qu (s : St) (i j : Nat) (q : Qu) (hi : i < s.qs.length) : (s.setq i q).qu j = if i = j then q else s.qu j := by
  unfold St.setq St.qu
  rw [Int.toNat_natCast, List.getD_eq_getElem?_getD, List.getD_eq_getElem?_getD, List.getElem?_set]
  split
  · simp
  · rfl
theorem setq_len (s : St) (i : Nat) (q : Qu) : (s.setq i q).qs.length = s.qs.length := List.length_set
end Go.Proofs.Ytbpinkelcbcpjaa.Ni
