import Derived.Test.YtbpinkelcbcpjaaCy
import Derived.Test.YtbpinkelcbcpjaaNp
import Derived.Test.YtbpinkelcbcpjaaAq
import Derived.Maps.OwnOps
import Derived.Maps.Views
import Derived.Maps.RangeWalk
namespace Go.Proofs.Ytbpinkelcbcpjaa.Ni
open Go.RowKit Blk Go.Maps Go.ChangeMaps Go.Proofs.YtbpinkelcbcpjaaW.PrintWords
set_option linter.unusedVariables false

/-- A map's element, as it stands: a slice. -/
def RV : Value → Option (DataW Value × List MemPlace)
  | .slice A n c => some (.held (.slice A n c), [])
  | _ => none
theorem RV_inv {v : Value} {x : DataW Value × List MemPlace} (h : RV v = some x) : ∃ A n c, v = .slice A n c ∧ x = (.held v, []) := by
  cases v <;> simp [RV] at h
  exact ⟨_, _, _, rfl, h.symm⟩
def kj (j : Nat) : Lit := .int .u32 j
theorem kj_ne {i j : Nat} (h : i ≠ j) : kj i ≠ kj j := fun e => h (by unfold kj at e; injection e with _ e; omega)
theorem kj_wf {j : Nat} (h : j < 4294967296) : (kj j).wf = true := by
  unfold kj
  exact WalkArith.wf_u32 (by omega)
theorem law32 : Keyed Try.prog 32 := int_keyed Try.underlying32
theorem zero45 (w : World) : (zeroValue 45).run Try.prog w = .ok (.slice none 0 0) w := by kernel_rfl
theorem key32 {j : Nat} (h : j < 4294967296) : keyOf Try.prog 32 (.int .u32 j) = some (kj j) := keyOf_int_mk Try.underlying32 (kj_wf h)

/-- The law's map of what waits, bucket by bucket. -/
structure Bk (w : World) (base mb n : Nat) (V : Nat → Value) (wt : Nat → List ByteArray) (D : DataW Value) : Prop where
  map : w.ownsMap Try.prog 32 RV mb n D
  ism : IsMap D
  lt : mb < base
  at' : ∀ j, j < 4294967296 → D.atKey (kj j) (.held (.slice none 0 0)) = .held (V j)
  q : ∀ j, j < 4294967296 → QRow w base 9 1 (V j) (wt j).length (strs (wt j))
  ne : ∀ i j, i < 4294967296 → j < 4294967296 → i ≠ j → NeRow (V i) (V j)
  keys : ∀ kl, has D kl = true → ∃ j, j < 4294967296 ∧ kl.sameKey (kj j) = true
theorem bk_start (w : World) : Bk (w.alloc (.map #[] 0)) (w.heap.size + 1) w.heap.size 0 (fun _ => .slice none 0 0) (fun _ => []) (.map []) :=
  ⟨World.ownsMap_made _ _ _ _, isMap_empty, Nat.lt_succ_self _, fun j _ => rfl, fun j _ => ⟨rfl, .inl ⟨rfl, none, rfl, fun a h => by cases h⟩⟩, fun i j _ _ _ k hk => absurd hk (by simp [Value.ownBlock]), fun kl h => absurd h (by simp [has_eq])⟩
section
variable {w : World} {base mb n : Nat} {V : Nat → Value} {wt : Nat → List ByteArray} {D : DataW Value}
/-- What stands at a bucket's key. -/
theorem Bk.look (h : Bk w base mb n V wt D) (j : Nat) (hj : j < 4294967296) : (Instr.lookup 63 (.map (some mb)) (.int .u32 j) false).run Try.prog w = .ok (V j) w := by
  obtain ⟨v, ps, hrun, hv⟩ := h.map.lookup law32 Try.underlying63 (zero45 w) (zd := .held (.slice none 0 0)) (zp := []) rfl (key32 hj)
  rw [h.at' j hj] at hv
  obtain ⟨A, m, c, rfl, hx⟩ := RV_inv hv
  simp only [Prod.mk.injEq, DataW.held.injEq] at hx
  rw [hx.1, hrun]
theorem Bk.move (h : Bk w base mb n V wt D) {w' : World} {row : Option Nat} (hg : w.grownBy w' row) (hm : some mb ≠ row) (hr : ∀ j, j < 4294967296 → ∀ k, (V j).ownBlock = some k → some k ≠ row) : Bk w' base mb n V wt D :=
  ⟨h.map.kept hg hm, h.ism, h.lt, h.at', fun j hj => q_move (h.q j hj) fun k hk => hg.block k (q_lt (h.q j hj) k hk) (hr j hj k hk), h.ne, h.keys⟩
/-- A bucket's slice becomes another one. -/
theorem Bk.put (h : Bk w base mb n V wt D) (hn : n < maxLen) (j : Nat) (hj : j < 4294967296) (v' : Value) (ids : List ByteArray) {w1 : World} (hg : w.grownBy w1 (V j).ownBlock) (hq : QRow w1 base 9 1 v' ids.length (strs ids)) (hat : v'.ownBlock = (V j).ownBlock ∨ ∃ b, v'.ownBlock = some b ∧ w.heap.size ≤ b) :
    ∃ w2, (Instr.mapUpdate 63 (.map (some mb)) (.int .u32 j) v').run Try.prog w1 = .ok () w2 ∧ Bk w2 base mb (n + 1) (fun k => if k = j then v' else V k) (fun k => if k = j then ids else wt k) (D.put (kj j) (.held v')) ∧ w1.grownBy w2 (some mb) := by
  obtain ⟨A, c, rfl, _⟩ := q_slice hq
  have hmb : some mb ≠ (V j).ownBlock := fun e => by
    have := (q_typed (h.q j hj) mb e.symm).1
    have := h.lt
    omega
  have hm1 := h.map.kept hg hmb
  obtain ⟨w2, hrun, hm2, hg2⟩ := hm1.update law32 Try.underlying63 hn (key32 hj) (val := .slice A ids.length c) (d := .held (.slice A ids.length c)) (ps := []) rfl
  have hlt := h.lt
  refine ⟨w2, hrun, ⟨hm2, h.ism.put _ _, h.lt, fun k hk => ?_, fun k hk => ?_, fun i k hi hk hik => ?_, fun kl hkl => ?_⟩, hg2⟩
  · by_cases e : k = j
    · subst e
      rw [if_pos rfl]
      exact atKey_put_same h.ism (law32.key (key32 hj)) _ _
    · rw [if_neg e, ← h.at' k hk]
      exact atKey_put_other (kj_ne e) _ _
  · have hmove : ∀ v m xs, QRow w1 base 9 1 v m xs → QRow w2 base 9 1 v m xs := fun v m xs hv => q_move hv fun b hb => hg2.block b (q_lt hv b hb) (fun e => by
      have := (q_typed hv b hb).1
      injection e with e
      omega)
    by_cases e : k = j
    · subst e
      rw [if_pos rfl, if_pos rfl]
      exact hmove _ _ _ hq
    · rw [if_neg e, if_neg e]
      refine hmove _ _ _ (q_move (h.q k hk) fun b hb => hg.block b (q_lt (h.q k hk) b hb) (fun e2 => ?_))
      exact h.ne k j hk hj e b hb e2.symm
  · have hnew : ∀ k, k < 4294967296 → k ≠ j → NeRow (V k) (.slice A ids.length c) := fun k hk e b hb e2 => by
      rcases hat with h1 | ⟨b2, h1, h2⟩
      · rw [h1] at e2
        exact h.ne k j hk hj e b hb e2
      · have := q_lt (h.q k hk) b hb
        rw [h1] at e2
        injection e2 with e2
        omega
    by_cases e : i = j
    · subst e
      rw [if_pos rfl, if_neg (Ne.symm hik)]
      exact ne_symm (hnew k hk (Ne.symm hik))
    · rw [if_neg e]
      by_cases e2 : k = j
      · subst e2
        rw [if_pos rfl]
        exact hnew i hi e
      · rw [if_neg e2]
        exact h.ne i k hi hk hik
  · by_cases e : kl = kj j
    · subst e
      exact ⟨j, hj, by unfold kj; simp [Lit.sameKey]⟩
    · rw [has_put_other e] at hkl
      exact h.keys kl hkl
end
end Go.Proofs.Ytbpinkelcbcpjaa.Ni
