import Derived.Test.YtbpinkelcbcpjaaNd
namespace Go.Proofs.Ytbpinkelcbcpjaa.Ni
open Go.RowKit Blk Go.Proofs.YtbpinkelcbcpjaaW.PrintWords
set_option linter.unusedVariables false

theorem quiet_left {P : Program} {f : FuncId} {args : Array Value} {w : World} {n : Nat} {v : Value}
    (h : Calls P f args (w.drewN n) fun e w' => e = .returned v ∧ w.drewN n = w') : Calls P f args (w.drewN n) fun e w'' => e = .returned v ∧ ∃ m, w'' = w.drewN m :=
  h.mono fun _ _ ⟨he, hm⟩ => ⟨he, n, hm.symm⟩
/-- Is there such a queue? -/
def St.is (s : St) (x : Int) : Prop := 0 ≤ x ∧ x < s.qs.length
instance (s : St) (x : Int) : Decidable (s.is x) := by unfold St.is; infer_instance
def q0 : Qu := ⟨[], 0, 0, [], 0, 0, false⟩
def St.qu (s : St) (x : Int) : Qu := s.qs.getD x.toNat q0
def St.waits (s : St) (x : Int) : Int := if s.is x then ((s.qu x).an : Int) else 0
def St.sends (s : St) (x : Int) : Int := if s.is x then ((s.qu x).on : Int) else 0
theorem qu_of {s : St} {i : Nat} {q : Qu} (h : s.qs[i]? = some q) : s.qu i = q := by
  unfold St.qu
  rw [Int.toNat_natCast, List.getD_eq_getElem?_getD, h]
  rfl
/-- Only what is the card's own has turned. -/
def Fr (base top : Nat) (w w' : World) : Prop := Ch (fun k => base ≤ k ∧ k < top) w w'
theorem Fr.refl (base top : Nat) (w : World) : Fr base top w w := Ch.refl _ _
theorem Fr.ofNone {base top : Nat} {w w' : World} (h : Ch nob w w') : Fr base top w w' := h.mono fun _ _ hk => hk.elim
section
variable {w : World} {base top b : Nat} {L : Lay} {s : St}
set_option maxHeartbeats 1000000 in
theorem waits_c (h : At w base top b L s) (x : Int) : Calls Try.prog 15 #[.pointer (some ⟨b, 0, none⟩), .int .i64 x] w fun e w' => e = .returned (.int .i64 (s.waits x)) ∧ w = w' := by
  have H := Lib.hid h
  by_cases hx : s.is x
  · obtain ⟨hx0, hx1⟩ := id hx
    obtain ⟨i, rfl⟩ := Int.eq_ofNat_of_zero_le hx0
    obtain ⟨q, hq, hQ⟩ := h.qu i (by omega)
    have HW := Lib.hid (show s.waits i = q.an by unfold St.waits; rw [if_pos hx, qu_of hq])
    have c2 := hQ.cells.2.2.1
    have hi : i < s.qs.length := by omega
    clear h hQ hq hx hx0 hx1
    go_enter Try.func15, Try.ntmps15
    go_wp2_with fail
    refine (of_ok H.out i hi).mono ?_
    rintro e w1 ⟨rfl, rfl⟩
    go_wp2
    go_ret
    exact ⟨by rw [HW.out]; rfl, rfl⟩
  · have HW := Lib.hid (show s.waits x = 0 from if_neg hx)
    have hx' : x < 0 ∨ (s.qs.length : Int) ≤ x := by unfold St.is at hx; omega
    clear h hx
    go_enter Try.func15, Try.ntmps15
    go_wp2_with fail
    refine (of_bad H.out x hx').mono ?_
    rintro e w1 ⟨rfl, rfl⟩
    go_wp2
    go_ret
    exact ⟨by rw [HW.out]; rfl, rfl⟩
set_option maxHeartbeats 1000000 in
theorem sends_c (h : At w base top b L s) (x : Int) : Calls Try.prog 16 #[.pointer (some ⟨b, 0, none⟩), .int .i64 x] w fun e w' => e = .returned (.int .i64 (s.sends x)) ∧ w = w' := by
  have H := Lib.hid h
  by_cases hx : s.is x
  · obtain ⟨hx0, hx1⟩ := id hx
    obtain ⟨i, rfl⟩ := Int.eq_ofNat_of_zero_le hx0
    obtain ⟨q, hq, hQ⟩ := h.qu i (by omega)
    have HW := Lib.hid (show s.sends i = q.on by unfold St.sends; rw [if_pos hx, qu_of hq])
    have c2 := hQ.cells.2.2.2.2.2.1
    have hi : i < s.qs.length := by omega
    clear h hQ hq hx hx0 hx1
    go_enter Try.func16, Try.ntmps16
    go_wp2_with fail
    refine (of_ok H.out i hi).mono ?_
    rintro e w1 ⟨rfl, rfl⟩
    go_wp2
    go_ret
    exact ⟨by rw [HW.out]; rfl, rfl⟩
  · have HW := Lib.hid (show s.sends x = 0 from if_neg hx)
    have hx' : x < 0 ∨ (s.qs.length : Int) ≤ x := by unfold St.is at hx; omega
    clear h hx
    go_enter Try.func16, Try.ntmps16
    go_wp2_with fail
    refine (of_bad H.out x hx').mono ?_
    rintro e w1 ⟨rfl, rfl⟩
    go_wp2
    go_ret
    exact ⟨by rw [HW.out]; rfl, rfl⟩
set_option maxHeartbeats 1000000 in
theorem dropped_c (h : At w base top b L s) : Calls Try.prog 17 #[.pointer (some ⟨b, 0, none⟩)] w fun e w' => e = .returned (.tuple #[.int .u64 s.came, .int .u64 s.sent]) ∧ Ch nob w w' := by
  have c2 : w.cell? ⟨b, 2, none⟩ = some (.int .u64 s.came) := h.hb.cell rfl
  have c3 : w.cell? ⟨b, 3, none⟩ = some (.int .u64 s.sent) := h.hb.cell rfl
  have HC := Lib.hid (Ch.refl nob w)
  clear h
  go_enter Try.func17, Try.ntmps17
  go_wp2
  go_quiet (fail)
  go_wp2
  go_ret2
  exact ⟨rfl, HC.out.drewN _⟩
/-- The queue of a hash. -/
def St.pick (s : St) (hash : Int) : Int := s.tab.getD (hash % 128).toNat 0
set_option maxHeartbeats 1000000 in
theorem pick_c (h : At w base top b L s) (A : Option Addr) (c : Nat) (hT : L.T = .slice A 128 c) (hash : Int) (hh : 0 ≤ hash ∧ hash ≤ 4294967295) :
    Calls Try.prog 33 #[.slice A 128 c, .int .u32 hash] w fun e w' => e = .returned (.tuple #[.int .i64 (s.pick hash), .bool true]) ∧ w = w' := by
  have ht := h.ht
  rw [hT] at ht
  obtain ⟨g, o, rfl, _, hc⟩ := q_at ht (by decide)
  obtain ⟨j, hj⟩ := Int.eq_ofNat_of_zero_le (show 0 ≤ hash % 128 by omega)
  have hj2 : j < 128 := by omega
  have hp : s.pick hash = s.tab.getD j 0 := by unfold St.pick; rw [hj, Int.toNat_natCast]
  have cj := (hc j (.int .i64 (s.tab.getD j 0)) (by
    rw [List.getElem?_map, List.getD_eq_getElem?_getD, List.getElem?_eq_getElem (by rw [h.tl]; exact hj2)]
    rfl)).1
  have hm : hash.tmod 128 = (j : Int) := by rw [Int.tmod_eq_emod_of_nonneg hh.1]; exact hj
  have HP := Lib.hid hp
  clear h ht hT hc hp hj
  go_enter Try.func33, Try.ntmps33
  go_wp2
  go_ret2
  exact ⟨by rw [HP.out]; rfl, rfl⟩
end
end Go.Proofs.Ytbpinkelcbcpjaa.Ni
