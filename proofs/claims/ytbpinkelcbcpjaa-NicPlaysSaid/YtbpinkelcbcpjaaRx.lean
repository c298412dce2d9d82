import Derived.Test.YtbpinkelcbcpjaaRt
import Derived.Test.YtbpinkelcbcpjaaRu
import Derived.Test.YtbpinkelcbcpjaaRv
import Derived.Test.YtbpinkelcbcpjaaRw
namespace Go.Proofs.Ytbpinkelcbcpjaa.Ni
open Go.RowKit Blk Go.Proofs.YtbpinkelcbcpjaaW.PrintWords
set_option linter.unusedVariables false

theorem gset {α : Type} (l : List α) (i j : Nat) (v d : α) (hi : i < l.length) : (l.set i v).getD j d = if i = j then v else l.getD j d := by
  rw [List.getD_eq_getElem?_getD, List.getD_eq_getElem?_getD, List.getElem?_set]
  split
  · simp
  · rfl
/-- Both say the same. -/
structure Sim (s : St) (r : Rf) : Prop where
  n : r.ins.length = s.qs.length
  lo : r.outs.length = s.qs.length
  la : r.armed.length = s.qs.length
  sz : r.size = s.size
  tab : r.tab = s.tab
  ci : ∀ i : Nat, i < s.qs.length → r.ins.getD i [] = (s.qu i).ci
  co : ∀ i : Nat, i < s.qs.length → r.outs.getD i [] = (s.qu i).co
  ar : ∀ i : Nat, i < s.qs.length → r.armed.getD i false = (s.qu i).armed
  came : r.came = s.came
  sent : r.sent = s.sent
section
variable {s : St} {r : Rf}
theorem Sim.pick (h : Sim s r) (x : Int) : r.pick x = s.pick x := by unfold Rf.pick St.pick; rw [h.tab]
theorem Sim.insl (h : Sim s r) (ok : s.Ok) (i : Nat) : (r.ins.getD i []).length ≤ 1000 := by
  by_cases hi : i < s.qs.length
  · have hok := (ok.at' i hi).2
    rw [h.ci i hi, hok.ci_len]
    have := hok.na
    have := ok.s8
    omega
  · rw [List.getD_eq_getElem?_getD, List.getElem?_eq_none (by rw [h.n]; omega)]
    exact Nat.zero_le _
theorem Sim.outl (h : Sim s r) (ok : s.Ok) (i : Nat) : (r.outs.getD i []).length ≤ 1000 := by
  by_cases hi : i < s.qs.length
  · have hok := (ok.at' i hi).2
    rw [h.co i hi, hok.co_len]
    have := hok.no
    have := ok.s8
    omega
  · rw [List.getD_eq_getElem?_getD, List.getElem?_eq_none (by rw [h.lo]; omega)]
    exact Nat.zero_le _
theorem Sim.come (h : Sim s r) (ok : s.Ok) (x : Sl) : (r.come x).2 = (s.come x).2 ∧ Sim (s.come x).1 (r.come x).1 := by
  obtain ⟨i, hi, hi2⟩ := ok.pick x.1
  have hok := (ok.at' i hi2).2
  have hl : (r.ins.getD i []).length = (s.qu i).an := by rw [h.ci i hi2, hok.ci_len]
  have hna := hok.na
  unfold Rf.come St.come
  have hsz := h.sz
  rw [h.pick, hi, Int.toNat_natCast, hl]
  by_cases hf : (s.qu i).an = s.size
  · rw [if_pos (by omega), if_pos hf]
    exact ⟨rfl, ⟨h.n, h.lo, h.la, h.sz, h.tab, h.ci, h.co, h.ar, by show (r.came + 1) % _ = _; rw [h.came], h.sent⟩⟩
  · rw [if_neg (by omega), if_neg hf]
    refine ⟨rfl, ⟨by show (r.ins.set _ _).length = _; rw [List.length_set, setq_len]; exact h.n, by rw [setq_len]; exact h.lo, by rw [setq_len]; exact h.la, h.sz, h.tab, fun j hj => ?_, fun j hj => ?_, fun j hj => ?_, h.came, h.sent⟩⟩
    · rw [setq_len] at hj
      show (r.ins.set i _).getD j [] = _
      rw [gset _ _ _ _ _ (by rw [h.n]; exact hi2), setq_qu _ _ _ _ hi2]
      by_cases e : i = j
      · subst e
        rw [if_pos rfl, if_pos rfl, hok.put (by omega), h.ci i hi2]
      · rw [if_neg e, if_neg e, h.ci j hj]
    · rw [setq_len] at hj
      rw [setq_qu _ _ _ _ hi2, h.co j hj]
      by_cases e : i = j
      · subst e; rw [if_pos rfl]; rfl
      · rw [if_neg e]
    · rw [setq_len] at hj
      rw [setq_qu _ _ _ _ hi2, h.ar j hj]
      by_cases e : i = j
      · subst e; rw [if_pos rfl]; rfl
      · rw [if_neg e]
theorem Sim.isr (h : Sim s r) (x : Int) : (0 ≤ x ∧ x < r.ins.length) ↔ s.is x := by rw [h.n]; rfl
theorem Sim.send (h : Sim s r) (ok : s.Ok) (x : Int) (t : ByteArray) : (r.send x t).2 = (s.send x t).2 ∧ Sim (s.send x t).1 (r.send x t).1 := by
  unfold Rf.send St.send
  by_cases hx : s.is x
  · rw [if_pos ((h.isr x).2 hx), if_pos hx]
    obtain ⟨i, rfl⟩ := Int.eq_ofNat_of_zero_le hx.1
    have hi2 : i < s.qs.length := by have := hx.2; omega
    have hok := (ok.at' i hi2).2
    have hl : (r.outs.getD i []).length = (s.qu i).on := by rw [h.co i hi2, hok.co_len]
    have hno := hok.no
    have hsz := h.sz
    rw [Int.toNat_natCast, hl]
    by_cases hf : (s.qu i).on = s.size
    · rw [if_pos (by omega), if_pos hf]
      exact ⟨rfl, ⟨h.n, h.lo, h.la, h.sz, h.tab, h.ci, h.co, h.ar, h.came, by show (r.sent + 1) % _ = _; rw [h.sent]⟩⟩
    · rw [if_neg (by omega), if_neg hf]
      refine ⟨rfl, ⟨by rw [setq_len]; exact h.n, by show (r.outs.set _ _).length = _; rw [List.length_set, setq_len]; exact h.lo, by rw [setq_len]; exact h.la, h.sz, h.tab, fun j hj => ?_, fun j hj => ?_, fun j hj => ?_, h.came, h.sent⟩⟩
      · rw [setq_len] at hj
        rw [setq_qu _ _ _ _ hi2, h.ci j hj]
        by_cases e : i = j
        · subst e; rw [if_pos rfl]; rfl
        · rw [if_neg e]
      · rw [setq_len] at hj
        show (r.outs.set i _).getD j [] = _
        rw [gset _ _ _ _ _ (by rw [h.lo]; exact hi2), setq_qu _ _ _ _ hi2]
        by_cases e : i = j
        · subst e
          rw [if_pos rfl, if_pos rfl, hok.send (by omega), h.co i hi2]
        · rw [if_neg e, if_neg e, h.co j hj]
      · rw [setq_len] at hj
        rw [setq_qu _ _ _ _ hi2, h.ar j hj]
        by_cases e : i = j
        · subst e; rw [if_pos rfl]; rfl
        · rw [if_neg e]
  · rw [if_neg (fun hh => hx ((h.isr x).1 hh)), if_neg hx]
    exact ⟨rfl, h⟩
theorem Sim.poll (h : Sim s r) (ok : s.Ok) (x n : Int) : (r.poll x n).2 = (s.poll x n).2 ∧ Sim (s.poll x n).1 (r.poll x n).1 := by
  unfold Rf.poll St.poll
  by_cases hx : s.is x ∧ 1 ≤ n ∧ n ≤ 64
  · rw [if_pos ⟨(h.isr x).2 hx.1, hx.2⟩, if_pos hx]
    obtain ⟨i, rfl⟩ := Int.eq_ofNat_of_zero_le hx.1.1
    have hi2 : i < s.qs.length := by have := hx.1.2; omega
    have hok := (ok.at' i hi2).2
    have hl : (r.ins.getD i []).length = (s.qu i).an := by rw [h.ci i hi2, hok.ci_len]
    obtain ⟨g1, g2⟩ := hok.poll (tk n (s.qu i).an) (tk_le _ _)
    rw [Int.toNat_natCast, hl]
    refine ⟨by rw [g1, h.ci i hi2], ⟨by show (r.ins.set _ _).length = _; rw [List.length_set, setq_len]; exact h.n, by rw [setq_len]; exact h.lo, by show (r.armed.set _ _).length = _; rw [List.length_set, setq_len]; exact h.la, h.sz, h.tab, fun j hj => ?_, fun j hj => ?_, fun j hj => ?_, h.came, h.sent⟩⟩
    · rw [setq_len] at hj
      show (r.ins.set i _).getD j [] = _
      rw [gset _ _ _ _ _ (by rw [h.n]; exact hi2), setq_qu _ _ _ _ hi2]
      by_cases e : i = j
      · subst e
        rw [if_pos rfl, if_pos rfl, h.ci i hi2]
        exact g2.symm
      · rw [if_neg e, if_neg e, h.ci j hj]
    · rw [setq_len] at hj
      rw [setq_qu _ _ _ _ hi2, h.co j hj]
      by_cases e : i = j
      · subst e; rw [if_pos rfl]; rfl
      · rw [if_neg e]
    · rw [setq_len] at hj
      show (r.armed.set i _).getD j false = _
      rw [gset _ _ _ _ _ (by rw [h.la]; exact hi2), setq_qu _ _ _ _ hi2]
      by_cases e : i = j
      · subst e
        rw [if_pos rfl, if_pos rfl]
      · rw [if_neg e, if_neg e, h.ar j hj]
  · rw [if_neg (fun hh => hx ⟨(h.isr x).1 hh.1, hh.2⟩), if_neg hx]
    exact ⟨rfl, h⟩
theorem Sim.gone (h : Sim s r) (ok : s.Ok) (x n : Int) : (r.gone x n).2 = (s.gone x n).2 ∧ Sim (s.gone x n).1 (r.gone x n).1 := by
  unfold Rf.gone St.gone
  by_cases hx : s.is x
  · rw [if_pos ((h.isr x).2 hx), if_pos hx]
    obtain ⟨i, rfl⟩ := Int.eq_ofNat_of_zero_le hx.1
    have hi2 : i < s.qs.length := by have := hx.2; omega
    have hok := (ok.at' i hi2).2
    have hl : (r.outs.getD i []).length = (s.qu i).on := by rw [h.co i hi2, hok.co_len]
    obtain ⟨g1, g2⟩ := hok.gone (tk n (s.qu i).on) (tk_le _ _)
    rw [Int.toNat_natCast, hl]
    refine ⟨by rw [g1, h.co i hi2], ⟨by rw [setq_len]; exact h.n, by show (r.outs.set _ _).length = _; rw [List.length_set, setq_len]; exact h.lo, by rw [setq_len]; exact h.la, h.sz, h.tab, fun j hj => ?_, fun j hj => ?_, fun j hj => ?_, h.came, h.sent⟩⟩
    · rw [setq_len] at hj
      rw [setq_qu _ _ _ _ hi2, h.ci j hj]
      by_cases e : i = j
      · subst e; rw [if_pos rfl]; rfl
      · rw [if_neg e]
    · rw [setq_len] at hj
      show (r.outs.set i _).getD j [] = _
      rw [gset _ _ _ _ _ (by rw [h.lo]; exact hi2), setq_qu _ _ _ _ hi2]
      by_cases e : i = j
      · subst e
        rw [if_pos rfl, if_pos rfl, h.co i hi2]
        exact g2.symm
      · rw [if_neg e, if_neg e, h.co j hj]
    · rw [setq_len] at hj
      rw [setq_qu _ _ _ _ hi2, h.ar j hj]
      by_cases e : i = j
      · subst e; rw [if_pos rfl]; rfl
      · rw [if_neg e]
  · rw [if_neg (fun hh => hx ((h.isr x).1 hh)), if_neg hx]
    exact ⟨rfl, h⟩
theorem Sim.table (h : Sim s r) (l : List Int) : (r.put l).2 = (s.table l).2 ∧ Sim (s.table l).1 (r.put l).1 := by
  unfold Rf.put St.table
  by_cases hx : l.length = 128 ∧ ∀ x ∈ l, s.is x
  · rw [if_pos ⟨hx.1, fun x hh => (h.isr x).2 (hx.2 x hh)⟩, if_pos hx]
    exact ⟨rfl, ⟨h.n, h.lo, h.la, h.sz, rfl, h.ci, h.co, h.ar, h.came, h.sent⟩⟩
  · rw [if_neg (fun hh => hx ⟨hh.1, fun x hm => (h.isr x).1 (hh.2 x hm)⟩), if_neg hx]
    exact ⟨rfl, h⟩
theorem Sim.is2 (h : Sim s r) (x : Int) : decide (0 ≤ x ∧ x < r.ins.length) = decide (s.is x) := decide_eq_decide.2 (h.isr x)
theorem fresh_qu' (n size q : Nat) (hq : q < n) : (fresh n size).qu q = qfresh size := by
  unfold St.qu
  rw [Int.toNat_natCast]
  show (List.replicate n (qfresh size)).getD q q0 = _
  rw [List.getD_eq_getElem?_getD, List.getElem?_replicate, if_pos hq]
  rfl
theorem sim_start (n size : Nat) (hn : 1 ≤ n) : Sim (fresh n size) (rfresh n size) := by
  have hl : (fresh n size).qs.length = n := List.length_replicate ..
  refine ⟨by rw [hl]; exact List.length_replicate .., by rw [hl]; exact List.length_replicate .., by rw [hl]; exact List.length_replicate .., rfl, ?_, fun i hi => ?_, fun i hi => ?_, fun i hi => ?_, rfl, rfl⟩
  · show _ = ev n 128
    unfold ev
    refine List.map_congr_left fun i hi => ?_
    rw [List.mem_range] at hi
    rw [if_pos hi]
  · rw [hl] at hi
    rw [fresh_qu' _ _ _ hi]
    show (List.replicate n []).getD i [] = cyc _ 0 0
    rw [cyc_zero, List.getD_eq_getElem?_getD, List.getElem?_replicate, if_pos hi]
    rfl
  · rw [hl] at hi
    rw [fresh_qu' _ _ _ hi]
    show (List.replicate n []).getD i [] = cyc _ 0 0
    rw [cyc_zero, List.getD_eq_getElem?_getD, List.getElem?_replicate, if_pos hi]
    rfl
  · rw [hl] at hi
    rw [fresh_qu' _ _ _ hi]
    show (List.replicate n true).getD i false = true
    rw [List.getD_eq_getElem?_getD, List.getElem?_replicate, if_pos hi]
    rfl
end
end Go.Proofs.Ytbpinkelcbcpjaa.Ni
