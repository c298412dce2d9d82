import Derived.Test.YtbpinkelcbcpjaaAp
namespace Go.Proofs.Ytbpinkelcbcpjaa.Ni
open Go.RowKit Blk Go.Proofs.YtbpinkelcbcpjaaW.PrintWords
set_option linter.unusedVariables false

/-- Two queues; what goes of each; nothing came. -/
structure Two (s : St) (l : Nat → List ByteArray) : Prop where
  n2 : s.qs.length = 2
  sz : s.size = 200
  co : ∀ q : Nat, q < 2 → (s.qu q).co = l q
  an : ∀ q : Nat, q < 2 → (s.qu q).an = 0
section
variable {s : St} {l : Nat → List ByteArray}
theorem Two.is (h : Two s l) (q : Nat) (hq : q < 2) : s.is q := by unfold St.is; rw [h.n2]; omega
theorem Two.on (h : Two s l) (ok : s.Ok) (q : Nat) (hq : q < 2) : (s.qu q).on = (l q).length := by
  rw [← h.co q hq, (ok.at' q (by rw [h.n2]; exact hq)).2.co_len]
theorem Two.send (h : Two s l) (ok : s.Ok) (q : Nat) (hq : q < 2) (t : ByteArray) (hl : (l q).length < 200) : (s.send q t).2 = 0 ∧ Two (s.send q t).1 (up2 l q (l q ++ [t])) := by
  have hon := h.on ok q hq
  have hok := (ok.at' q (by rw [h.n2]; exact hq)).2
  have hsz := h.sz
  have e : s.send q t = (s.setq q ((s.qu q).send s.size t), 0) := by
    unfold St.send
    rw [if_pos (h.is q hq), if_neg (by omega), Int.toNat_natCast]
  rw [e]
  have hqu : ∀ j : Nat, (s.setq q ((s.qu q).send s.size t)).qu j = if q = j then (s.qu q).send s.size t else s.qu j := fun j => setq_qu s q j _ (by rw [h.n2]; exact hq)
  refine ⟨rfl, ⟨by rw [setq_len]; exact h.n2, h.sz, fun j hj => ?_, fun j hj => ?_⟩⟩
  · show ((s.setq q _).qu j).co = _
    rw [hqu]
    by_cases ej : q = j
    · subst ej
      rw [if_pos rfl, up2_same, hok.send (by omega), h.co q hq]
    · rw [if_neg ej, up2_ne _ _ _ _ (Ne.symm ej), h.co j hj]
  · show ((s.setq q _).qu j).an = _
    rw [hqu]
    by_cases ej : q = j
    · subst ej
      rw [if_pos rfl]
      exact h.an q hq
    · rw [if_neg ej]
      exact h.an j hj
theorem Two.gone (h : Two s l) (ok : s.Ok) (q : Nat) (hq : q < 2) (n : Int) : (s.gone q n).2 = (l q).take (tk n (l q).length) ∧ Two (s.gone q n).1 (up2 l q ((l q).drop (tk n (l q).length))) := by
  have hon := h.on ok q hq
  have hok := (ok.at' q (by rw [h.n2]; exact hq)).2
  have hle := tk_le n (l q).length
  have e : s.gone q n = (s.setq q ((s.qu q).gone s.size (tk n (l q).length)), cyc (s.qu q).o (s.qu q).of (tk n (l q).length)) := by
    unfold St.gone
    rw [if_pos (h.is q hq), Int.toNat_natCast, hon]
  rw [e]
  obtain ⟨g1, g2⟩ := hok.gone (tk n (l q).length) (by omega)
  have hqu : ∀ j : Nat, (s.setq q ((s.qu q).gone s.size (tk n (l q).length))).qu j = if q = j then (s.qu q).gone s.size (tk n (l q).length) else s.qu j := fun j => setq_qu s q j _ (by rw [h.n2]; exact hq)
  refine ⟨by rw [← h.co q hq] at g1 ⊢; exact g1, ⟨by rw [setq_len]; exact h.n2, h.sz, fun j hj => ?_, fun j hj => ?_⟩⟩
  · show ((s.setq q _).qu j).co = _
    rw [hqu]
    by_cases ej : q = j
    · subst ej
      rw [if_pos rfl, up2_same, g2, h.co q hq]
    · rw [if_neg ej, up2_ne _ _ _ _ (Ne.symm ej), h.co j hj]
  · show ((s.setq q _).qu j).an = _
    rw [hqu]
    by_cases ej : q = j
    · subst ej
      rw [if_pos rfl]
      exact h.an q hq
    · rw [if_neg ej]
      exact h.an j hj
theorem Two.sends (h : Two s l) (ok : s.Ok) (q : Nat) (hq : q < 2) : s.sends q = ((l q).length : Int) := by
  unfold St.sends
  rw [if_pos (h.is q hq), h.on ok q hq]
theorem Two.waits (h : Two s l) (q : Nat) (hq : q < 2) : s.waits q = 0 := by
  unfold St.waits
  rw [if_pos (h.is q hq), h.an q hq]
  rfl
theorem fresh_qu (n size q : Nat) (hq : q < n) : (fresh n size).qu q = qfresh size := by
  unfold St.qu
  rw [Int.toNat_natCast]
  show (List.replicate n (qfresh size)).getD q q0 = _
  rw [List.getD_eq_getElem?_getD, List.getElem?_replicate, if_pos hq]
  rfl
theorem two_start : Two (fresh 2 200) (fun _ => []) := by
  refine ⟨rfl, rfl, fun q hq => ?_, fun q hq => ?_⟩
  · rw [fresh_qu _ _ _ hq]
    exact cyc_zero _ _
  · rw [fresh_qu _ _ _ hq]
    rfl
end
end Go.Proofs.Ytbpinkelcbcpjaa.Ni
