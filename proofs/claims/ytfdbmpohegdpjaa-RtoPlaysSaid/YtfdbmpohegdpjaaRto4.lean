import Derived.Test.YtfdbmpohegdpjaaRto3
import Derived.OpenShut
namespace Go.Proofs.Ytfdbmpohegdpjaa.Rto
open Go.RowKit Blk
set_option linter.unusedVariables false

theorem ag_ge (n : Nat) : ∀ x, 0 ≤ x → x ≤ ag n x := by
  induction n with
  | zero => intro x _; exact Int.le_refl _
  | succ n ih =>
    intro x h
    unfold ag
    split
    · have := ih (2 * x) (by omega); omega
    · omega
theorem ag_succ (n : Nat) : ∀ x, ag (n + 1) x = if ag n x < 60000 then 2 * ag n x else ag n x := by
  induction n with
  | zero => intro x; rfl
  | succ n ih =>
    intro x
    by_cases c : x < 60000
    · have e1 : ag (n + 1 + 1) x = ag (n + 1) (2 * x) := by show (if x < 60000 then _ else _) = _; rw [if_pos c]
      have e2 : ag (n + 1) x = ag n (2 * x) := by show (if x < 60000 then _ else _) = _; rw [if_pos c]
      rw [e1, e2, ih]
    · have e1 : ag (n + 1 + 1) x = x := by show (if x < 60000 then _ else _) = _; rw [if_neg c]
      have e2 : ag (n + 1) x = x := by show (if x < 60000 then _ else _) = _; rw [if_neg c]
      rw [e1, e2, if_neg c]
theorem time_bd (s : St) (h : s.Ok) : 200 ≤ s.time ∧ s.time ≤ 60000 := by
  have hb : 0 ≤ (if s.base < 200 then 200 else s.base) := by split <;> omega
  have hg := ag_ge s.bk.toNat _ hb
  have h2 : 200 ≤ (if s.base < 200 then 200 else s.base) := by split <;> omega
  unfold St.time
  simp only
  generalize (if s.base < 200 then 200 else s.base) = B at *
  split <;> omega
theorem time_late (s : St) (h : s.Ok) : s.late.time = if 60000 < 2 * s.time then 60000 else 2 * s.time := by
  have e : s.late.bk.toNat = s.bk.toNat + 1 := by have := h.b0; show (s.bk + 1).toNat = _; omega
  have eb : s.late.base = s.base := rfl
  have hb : 0 ≤ (if s.base < 200 then 200 else s.base) := by split <;> omega
  have hg := ag_ge s.bk.toNat _ hb
  unfold St.time
  rw [e, eb, ag_succ]
  simp only
  generalize ag s.bk.toNat (if s.base < 200 then 200 else s.base) = X at *
  have h2 : 200 ≤ (if s.base < 200 then 200 else s.base) := by split <;> omega
  split <;> split <;> split <;> omega
theorem next_bk (s : St) (t : Int) : (s.next t).bk = 0 := by unfold St.next; split <;> rfl
theorem measure_bk (s : St) (t : Int) : (s.measure t).bk = if t < 0 then s.bk else 0 := by
  unfold St.measure; split
  · rfl
  · exact next_bk _ _

/-- A slice that came in. -/
def IsRow (k : IntKind) (w : World) (a : Option Addr) (len cap : Nat) (zs : List Int) : Prop :=
  (a = none ∧ len = 0 ∧ cap = 0 ∧ zs = []) ∨
  ∃ x, a = some x ∧ len ≤ cap ∧ cap ≤ maxLen ∧ zs.length = cap ∧ (∀ i, i < zs.length → w.cell? (x.add i) = some (.int k (zs.getD i 0))) ∧ ∀ n ∈ zs, (Lit.int k n).wf = true

/-- What a walk needs of a slice that came in: its address where it has an element, its cells. -/
theorem row_at {k : IntKind} {w : World} {a : Option Addr} {len cap : Nat} {zs : List Int} (h : IsRow k w a len cap zs) :
    len = 0 ∨ ∃ b off, a = some ⟨b, off, none⟩ ∧ (∀ i, i < len → w.cell? ⟨b, off + i, none⟩ = some (.int k (zs.getD i 0))) ∧ (∀ i, i < len → (Lit.int k (zs.getD i 0)).wf = true) := by
  rcases h with ⟨_, rfl, _⟩ | ⟨x, rfl, hl, _, hz, hc, hw⟩
  · exact .inl rfl
  · by_cases c : len = 0
    · exact .inl c
    · obtain ⟨b, off, rfl, hj⟩ := ints_at hc (by omega)
      refine .inr ⟨b, off, rfl, fun i hi => hj i (by omega), fun i hi => ?_⟩
      have hlt : i < zs.length := by omega
      rw [List.getD_eq_getElem?_getD, List.getElem?_eq_getElem hlt]
      exact hw _ (List.getElem_mem hlt)

theorem cell_later {n : Nat} {w w1 : World} (h : Below w.heap.size w w1) {a : Addr} {v : Value} (hc : w.cell? a = some v) : w1.cell? a = some v :=
  (h.cell (World.block_lt_of_cell? w a hc)).trans hc

set_option maxHeartbeats 4000000 in
set_option maxRecDepth 100000 in
theorem bounds_k (a : Option Addr) (len cap : Nat) (zs : List Int) (late t : Int) (w : World) (hr : IsRow .i64 w a len cap zs) (hl : 0 ≤ late ∧ late ≤ 255) (ht : -9223372036854775808 ≤ t ∧ t ≤ 9223372036854775807) (hlen : len ≤ 9223372036854775807) :
    Calls Try.prog 4 #[.slice a len cap, .int .u8 late, .int .i64 t] w fun e w' => e = .returned (.bool true) ∧ Below w.heap.size w w' := by
  by_cases c0 : 300 < len
  · go_enter Try.func4, Try.ntmps4
    go_wp2_with fail
    refine (alive_k w w (Below.refl _ _)).mono ?_
    rintro e w1 ⟨rfl, hb⟩
    go_wp2
    go_ret
    exact ⟨rfl, hb⟩
  have HR := Lib.hid (row_at hr)
  clear hr hlen
  go_enter Try.func4, Try.ntmps4
  go_wp2_with fail
  refine (new_l w w (Below.refl _ _)).mono ?_
  rintro e w1 ⟨rfl, HL⟩
  go_wp2
  generalize w.heap.size = b at HL ⊢
  go_loopw [8] (fun vi wr => ∃ (k : Nat) (s : St), k ≤ len ∧ vi = .int .i64 k ∧ Lone w b s wr ∧ s.Ok ∧ Hid (s.bk = 0)) (fun vi _ => len - (intOf vi).toNat)
  case atStart => exact ⟨0, St.zero, Nat.zero_le _, rfl, HL, St.Ok.zero, Lib.hid rfl⟩
  case round =>
    clear HL
    obtain ⟨k, s, hk, rfl, HL, ho, hbk⟩ := hrel
    by_cases hlt : k < len
    · obtain ⟨bb, off, ea, hcell, _⟩ := HR.out.resolve_left (by omega)
      subst ea
      obtain ⟨x, hx⟩ : ∃ x, zs.getD k 0 = x := ⟨_, rfl⟩
      have hck := cell_later (n := 0) HL.below (hcell k hlt)
      rw [hx] at hck
      clear hcell hx
      go_wp2_with fail
      refine (measure_l _ HL ho).mono ?_
      clear HL
      rintro e w2 ⟨rfl, HL⟩
      have ho2 := measure_ok s ho x
      have hb2 := Lib.hid (show (s.measure x).bk = 0 by rw [measure_bk, hbk.out]; split <;> rfl)
      generalize s.measure x = s2 at *
      clear hck hbk ho
      have htb := time_bd s2 ho2
      go_wp2_with fail
      refine (time_l HL ho2).mono ?_
      clear HL
      rintro e w3 ⟨rfl, HL⟩
      go_wp2_with fail
      refine (time_l HL ho2).mono ?_
      clear HL
      rintro e w4 ⟨rfl, HL⟩
      go_wp2
      go_roundw
      case rel => exact ⟨k + 1, s2, by omega, by go_num, HL, ho2, hb2⟩
      case measure => simp [intOf]; omega
    · have hk' : k = len := by omega
      subst hk'
      clear hlt hk
      go_wp2_with fail
      refine (time_l HL ho).mono ?_
      clear HL
      rintro e w3 ⟨rfl, HL⟩
      have bt := time_bd s ho
      go_wp2
      go_loopw [9, 10] (fun vw vi wr => ∃ (j : Nat) (s2 : St), j ≤ 20 ∧ vi = .int .i64 j ∧ vw = .int .i64 s2.time ∧ Lone w b s2 wr ∧ s2.Ok ∧ Hid (s2.bk = ((j : Nat) : Int))) (fun _ vi _ => (late % 20).toNat - (intOf vi).toNat)
      case atStart => exact ⟨0, s, by omega, rfl, rfl, HL, ho, hbk⟩
      case round =>
        clear HL ho hbk bt
        obtain ⟨j, s2, hj, rfl, rfl, HL, ho2, hb2⟩ := hrel
        have bt2 := time_bd s2 ho2
        by_cases hlt : (j : Int) < late % 20
        · have ho3 := late_ok s2 ho2 (by rw [hb2.out]; omega)
          have hb3 := Lib.hid (show s2.late.bk = ((j + 1 : Nat) : Int) by show s2.bk + 1 = _; rw [hb2.out]; omega)
          have tl := time_late s2 ho2
          by_cases c6 : 60000 < 2 * s2.time
          · rw [if_pos c6] at tl
            have TL := Lib.hid tl
            clear tl
            go_wp2_with fail
            refine (late_l HL ho2 (by rw [hb2.out]; omega)).mono ?_
            clear HL
            rintro e w4 ⟨rfl, HL⟩
            go_wp2_with fail
            refine (time_l HL ho3).mono ?_
            clear HL
            rintro e w4 ⟨rfl, HL⟩
            rw [TL.out]
            go_wp2_with fail
            refine (backs_l HL).mono ?_
            clear HL
            rintro e w4 ⟨rfl, HL⟩
            rw [hb3.out]
            go_wp2
            go_roundw
            case rel => exact ⟨j + 1, s2.late, by omega, by go_num, by rw [TL.out], HL, ho3, hb3⟩
            case measure => simp [intOf]; omega
          · rw [if_neg c6] at tl
            have TL := Lib.hid tl
            clear tl
            go_wp2_with fail
            refine (late_l HL ho2 (by rw [hb2.out]; omega)).mono ?_
            clear HL
            rintro e w4 ⟨rfl, HL⟩
            go_wp2_with fail
            refine (time_l HL ho3).mono ?_
            clear HL
            rintro e w4 ⟨rfl, HL⟩
            rw [TL.out]
            go_wp2_with fail
            refine (backs_l HL).mono ?_
            clear HL
            rintro e w4 ⟨rfl, HL⟩
            rw [hb3.out]
            go_wp2
            go_roundw
            case rel => exact ⟨j + 1, s2.late, by omega, by go_num, by rw [TL.out], HL, ho3, hb3⟩
            case measure => simp [intOf]; omega
        · go_wp2_with fail
          refine (backs_l HL).mono ?_
          clear HL
          rintro e w4 ⟨rfl, HL⟩
          go_wp2_with fail
          refine (measure_l _ HL ho2).mono ?_
          clear HL
          rintro e w5 ⟨rfl, HL⟩
          have hb4 := measure_bk s2 t
          by_cases ct : t < 0
          · rw [if_pos ct] at hb4
            have HB4 := Lib.hid hb4
            clear hb4
            go_wp2_with fail
            refine (backs_l HL).mono ?_
            clear HL
            rintro e w6 ⟨rfl, HL⟩
            rw [HB4.out]
            go_wp2_with fail
            refine (alive_k w _ HL.below).mono ?_
            rintro e w7 ⟨rfl, hb⟩
            go_wp2
            go_ret
            exact ⟨by first | rfl | (simp; done), hb⟩
          · rw [if_neg ct] at hb4
            have HB4 := Lib.hid hb4
            clear hb4
            go_wp2_with fail
            refine (backs_l HL).mono ?_
            clear HL
            rintro e w6 ⟨rfl, HL⟩
            rw [HB4.out]
            go_wp2_with fail
            refine (alive_k w _ HL.below).mono ?_
            rintro e w7 ⟨rfl, hb⟩
            go_wp2
            go_ret
            exact ⟨by first | rfl | (simp; done), hb⟩
end Go.Proofs.Ytfdbmpohegdpjaa.Rto
