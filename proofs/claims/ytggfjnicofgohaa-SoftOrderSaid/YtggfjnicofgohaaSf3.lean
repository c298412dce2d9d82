import Derived.Test.YtggfjnicofgohaaSf2
import Derived.Lib.SliceRun
namespace Go.Proofs.Ytggfjnicofgohaa.Sf
open Go.RowKit Blk Go.Proofs.YtggfjnicofgohaaW.PrintWords
set_option linter.unusedVariables false

section
variable {w : World} {base b r l : Nat} {rv : List Value} {O : Value} {s : St}
theorem At.c0 (h : At w base b r l rv O s) : w.cell? ⟨b, 0, none⟩ = some (.int .i64 s.most) := h.hb.cell rfl
theorem At.c1 (h : At w base b r l rv O s) : w.cell? ⟨b, 1, none⟩ = some (.slice (some ⟨r, 0, none⟩) s.n s.n) := h.hb.cell rfl
theorem At.c2 (h : At w base b r l rv O s) : w.cell? ⟨b, 2, none⟩ = some (.slice (some ⟨l, 0, none⟩) s.n s.n) := h.hb.cell rfl
theorem At.c3 (h : At w base b r l rv O s) : w.cell? ⟨b, 3, none⟩ = some O := h.hb.cell rfl
theorem At.cc (h : At w base b r l rv O s) (i : Nat) (hi : i < 256) : w.cell? ⟨b, 4 + i, none⟩ = some (.int .i64 (s.cnt.getD i 0)) := h.hb.cell (sc_cnt h.cl i hi)
theorem At.ck (h : At w base b r l rv O s) (i : Nat) (hi : i < 256) : w.cell? ⟨b, 260 + i, none⟩ = some (.int .i64 (s.cor.getD i 0)) := h.hb.cell (sc_cor h.cl h.kl i hi)
theorem At.lc (h : At w base b r l rv O s) (i : Nat) (hi : i < s.n) : w.cell? ⟨l, i, none⟩ = some (.int .u64 (s.lost.getD i 0)) := by
  refine h.hl.cell ?_
  have := h.lostl
  rw [List.getElem?_map, List.getD_eq_getElem?_getD, List.getElem?_eq_getElem (by omega)]
  rfl
/-- A core's backlog. -/
theorem At.row (h : At w base b r l rv O s) (i : Nat) (hi : i < s.n) : ∃ A c row, s.rows[i]? = some row ∧ rv[i]? = some (.slice A row.length c) ∧ w.cell? ⟨r, i, none⟩ = some (.slice A row.length c) ∧ QRow w base 67 2 (.slice A row.length c) row.length (flat row) ∧ row.length ≤ c := by
  have h1 := h.rvl
  have h2 := h.rowl
  have e1 : rv[i]? = some (rv[i]'(by omega)) := List.getElem?_eq_getElem (by omega)
  have e2 : s.rows[i]? = some (s.rows[i]'(by omega)) := List.getElem?_eq_getElem (by omega)
  have hq := h.q i _ _ e1 e2
  obtain ⟨A, c, e3, hc⟩ := q_slice hq
  rw [e3] at hq e1
  exact ⟨A, c, _, e2, e1, h.hr.cell e1, hq, hc⟩
end

theorem nil60 (w : World) (a : Option Addr) (n c n' c' : Nat) : (binOp .eql 60 (.slice a n c) (.slice none n' c')).run Try.prog w = .ok (.bool a.isNone) w := Lib.run_eql_slice_nil w 60 65 a n c n' c' Try.underlying60
/-- Is there no such core? -/
def may (n : Nat) (core : Int) : Int := if core < 0 ∨ (n : Int) ≤ core then 2 else 0

set_option maxHeartbeats 1000000 in
theorem may_nil (core : Int) (w : World) : Calls Try.prog 22 #[.pointer none, .int .i64 core] w fun e w' => e = .returned (.int .i64 1) ∧ w = w' := by
  go_enter Try.func22, Try.ntmps22
  go_wp2
  go_ret
  exact ⟨rfl, rfl⟩
set_option maxHeartbeats 1000000 in
theorem may_c {w : World} {base b r l : Nat} {rv : List Value} {O : Value} {s : St} (h : At w base b r l rv O s) (core : Int) :
    Calls Try.prog 22 #[.pointer (some ⟨b, 0, none⟩), .int .i64 core] w fun e w' => e = .returned (.int .i64 (may s.n core)) ∧ w = w' := by
  have c1 := h.c1
  have hnil := nil60
  unfold may
  clear h
  by_cases h1 : core < 0
  · rw [if_pos (Or.inl h1)]
    go_enter Try.func22, Try.ntmps22
    go_wp2
    go_ret
    exact ⟨rfl, rfl⟩
  · by_cases h2 : (s.n : Int) ≤ core
    · rw [if_pos (Or.inr h2)]
      go_enter Try.func22, Try.ntmps22
      go_wp2
      go_ret
      exact ⟨rfl, rfl⟩
    · rw [if_neg (by omega)]
      go_enter Try.func22, Try.ntmps22
      go_wp2
      go_ret
      exact ⟨rfl, rfl⟩

/-- How many wait with a core. -/
def St.len (s : St) (core : Int) : Int := if core < 0 ∨ (s.n : Int) ≤ core then 0 else ((s.rows.getD core.toNat []).length : Int)
def St.drops (s : St) (core : Int) : Int := if core < 0 ∨ (s.n : Int) ≤ core then 0 else s.lost.getD core.toNat 0
theorem may_2 (n : Nat) (core : Int) (h : core < 0 ∨ (n : Int) ≤ core) : may n core = 2 := if_pos h
theorem may_0 (n : Nat) (core : Int) (h : ¬ (core < 0 ∨ (n : Int) ≤ core)) : may n core = 0 := if_neg h
theorem getD_of {α : Type} {l : List α} {i : Nat} {a d : α} (h : l[i]? = some a) : l.getD i d = a := by rw [List.getD_eq_getElem?_getD, h]; rfl
set_option maxHeartbeats 1000000 in
theorem len_c {w : World} {base b r l : Nat} {rv : List Value} {O : Value} {s : St} (h : At w base b r l rv O s) (core : Int) (hn : s.n ≤ 8) :
    Calls Try.prog 15 #[.pointer (some ⟨b, 0, none⟩), .int .i64 core] w fun e w' => e = .returned (.int .i64 (s.len core)) ∧ w = w' := by
  have H := Lib.hid h
  have c1 := h.c1
  by_cases hc : core < 0 ∨ (s.n : Int) ≤ core
  · have HL := Lib.hid (show s.len core = 0 from if_pos hc)
    clear h
    go_enter Try.func15, Try.ntmps15
    go_wp2_with fail
    refine (may_c H.out core).mono ?_
    rintro e w' ⟨rfl, rfl⟩
    rw [may_2 _ _ hc]
    clear hc
    go_wp2
    go_ret
    exact ⟨by rw [HL.out]; rfl, rfl⟩
  · have HL := Lib.hid (show s.len core = _ from if_neg hc)
    obtain ⟨i, rfl⟩ := Int.eq_ofNat_of_zero_le (show 0 ≤ core by omega)
    obtain ⟨A, c, row, hrow, _, hcell, hq, hle⟩ := h.row i (by omega)
    have HR := Lib.hid hrow
    have hi : (i : Int) < s.n := by omega
    clear h hrow hq hle
    go_enter Try.func15, Try.ntmps15
    go_wp2_with fail
    refine (may_c H.out i).mono ?_
    rintro e w' ⟨rfl, rfl⟩
    rw [may_0 _ _ hc]
    clear hc
    go_wp2
    go_ret
    exact ⟨by rw [HL.out, Int.toNat_natCast, getD_of HR.out]; rfl, rfl⟩
set_option maxHeartbeats 1000000 in
theorem drops_c {w : World} {base b r l : Nat} {rv : List Value} {O : Value} {s : St} (h : At w base b r l rv O s) (core : Int) (hn : s.n ≤ 8) :
    Calls Try.prog 21 #[.pointer (some ⟨b, 0, none⟩), .int .i64 core] w fun e w' => e = .returned (.int .u64 (s.drops core)) ∧ w = w' := by
  have H := Lib.hid h
  have c2 := h.c2
  by_cases hc : core < 0 ∨ (s.n : Int) ≤ core
  · have HL := Lib.hid (show s.drops core = 0 from if_pos hc)
    clear h
    go_enter Try.func21, Try.ntmps21
    go_wp2_with fail
    refine (may_c H.out core).mono ?_
    rintro e w' ⟨rfl, rfl⟩
    rw [may_2 _ _ hc]
    clear hc
    go_wp2
    go_ret
    exact ⟨by rw [HL.out]; rfl, rfl⟩
  · have HL := Lib.hid (show s.drops core = _ from if_neg hc)
    obtain ⟨i, rfl⟩ := Int.eq_ofNat_of_zero_le (show 0 ≤ core by omega)
    have hcell := h.lc i (by omega)
    have hi : (i : Int) < s.n := by omega
    clear h
    go_enter Try.func21, Try.ntmps21
    go_wp2_with fail
    refine (may_c H.out i).mono ?_
    rintro e w' ⟨rfl, rfl⟩
    rw [may_0 _ _ hc]
    clear hc
    go_wp2
    go_ret
    exact ⟨by rw [HL.out, Int.toNat_natCast]; rfl, rfl⟩

/-- Which core a hash comes to, of those that are on. -/
def coreOf (hash : Int) (on : List Int) : Int := on.getD ((hash * on.length) / 4294967296).toNat 0
def St.target (s : St) (hash : Int) : Int := if 0 < s.cnt.getD (hash % 256).toNat 0 then s.cor.getD (hash % 256).toNat 0 else coreOf hash s.on

theorem q_at {w : World} {base n size c : Nat} {e : TypeId} {A : Option Addr} {xs : List Value} (h : QRow w base e size (.slice A n c) n xs) (hn : 0 < n) :
    ∃ g o, A = some ⟨g, o, none⟩ ∧ base ≤ g ∧ ∀ j u, xs[j]? = some u → w.cell? ⟨g, o + j, none⟩ = some u ∧ w.frozen? ⟨g, o + j, none⟩ = false := by
  have hcs := q_cells h hn
  rcases h.2 with ⟨h0, _⟩ | ⟨g, off, cap, cur, he, hg, hh, _⟩
  · omega
  · injection he with ha _ hc
    subst ha
    obtain ⟨ad, e1, e2⟩ := hcs
    injection e1 with e1
    subst e1
    refine ⟨g, off * size, rfl, hg, fun j u hu => ⟨?_, ?_⟩⟩
    · have := e2 j u hu
      rw [add_at] at this
      exact this
    · unfold World.frozen?
      rw [hh]
      simp
set_option maxHeartbeats 2000000 in
theorem core_c (hash : Int) (A : Option Addr) (c : Nat) (on : List Int) (base : Nat) (w : World) (hq : QRow w base 3 1 (.slice A on.length c) on.length (on.map (Value.int .i64))) (h0 : 1 ≤ on.length) (h8 : on.length ≤ 8) (hh : 0 ≤ hash ∧ hash ≤ 4294967295) :
    Calls Try.prog 24 #[.int .u32 hash, .slice A on.length c] w fun e w' => e = .returned (.tuple #[.int .i64 (coreOf hash on), .bool true]) ∧ w = w' := by
  obtain ⟨g, off, rfl, _, hcell⟩ := q_at hq (by omega)
  obtain ⟨N, hN⟩ : ∃ N, N = on.length := ⟨_, rfl⟩
  have hp0 : 0 ≤ hash * (N : Int) := Int.mul_nonneg hh.1 (by omega)
  have hp1 : hash * (N : Int) < 4294967296 * N := Int.mul_lt_mul_of_pos_right (by omega) (by omega)
  have hpr : 0 ≤ hash * (N : Int) / 4294967296 ∧ hash * (N : Int) / 4294967296 < N := by omega
  obtain ⟨j, hj⟩ := Int.eq_ofNat_of_zero_le hpr.1
  have hjl : j < N := by omega
  have hc := (hcell j (.int .i64 (on.getD j 0)) (by rw [List.getElem?_map, List.getD_eq_getElem?_getD, List.getElem?_eq_getElem (by omega)]; rfl)).1
  have HE := Lib.hid (show coreOf hash on = on.getD j 0 by unfold coreOf; rw [← hN, hj, Int.toNat_natCast])
  obtain ⟨x, hx⟩ : ∃ x, on.getD j 0 = x := ⟨_, rfl⟩
  rw [hx] at hc HE
  rw [HE.out]
  rw [← hN] at h0 h8 ⊢
  have hp2 : hash * (N : Int) ≤ 34359738368 := by omega
  clear hcell hq hx hN HE hpr hp1
  go_enter Try.func24, Try.ntmps24
  go_wp2
  go_ret2
  exact ⟨rfl, rfl⟩
end Go.Proofs.Ytggfjnicofgohaa.Sf
