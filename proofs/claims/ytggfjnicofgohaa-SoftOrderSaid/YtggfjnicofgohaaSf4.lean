import Derived.Test.YtggfjnicofgohaaSf3
namespace Go.Proofs.Ytggfjnicofgohaa.Sf
open Go.RowKit Blk Go.Proofs.YtggfjnicofgohaaW.PrintWords
set_option linter.unusedVariables false

set_option maxHeartbeats 2000000 in
theorem target_c {w : World} {base b r l : Nat} {rv : List Value} {O : Value} {s : St} (h : At w base b r l rv O s) (hash : Int) (hh : 0 ≤ hash ∧ hash ≤ 4294967295) (h0 : 1 ≤ s.on.length) (h8 : s.on.length ≤ 8) :
    Calls Try.prog 13 #[.pointer (some ⟨b, 0, none⟩), .int .u32 hash] w fun e w' => e = .returned (.tuple #[.int .i64 (s.target hash), .int .i64 0]) ∧ w = w' := by
  obtain ⟨i, hi⟩ := Int.eq_ofNat_of_zero_le (show 0 ≤ hash % 256 by omega)
  have hi2 : i < 256 := by omega
  have c1 := h.c1
  have c3 := h.c3
  have cc := h.cc i hi2
  have ck := h.ck i hi2
  have hnil := nil60
  obtain ⟨A, c, rfl, _⟩ := q_slice h.ho
  have HQ := Lib.hid h.ho
  obtain ⟨x, hx⟩ : ∃ x, s.cnt.getD i 0 = x := ⟨_, rfl⟩
  obtain ⟨y, hy⟩ : ∃ y, s.cor.getD i 0 = y := ⟨_, rfl⟩
  rw [hx] at cc
  rw [hy] at ck
  by_cases c0 : 0 < x
  · have HT := Lib.hid (show s.target hash = y by unfold St.target; rw [hi, Int.toNat_natCast, hx, if_pos c0, hy])
    rw [HT.out]
    clear h hx hy HT
    go_enter Try.func13, Try.ntmps13
    go_wp2
    go_ret2
    exact ⟨rfl, rfl⟩
  · have HT := Lib.hid (show s.target hash = coreOf hash s.on by unfold St.target; rw [hi, Int.toNat_natCast, hx, if_neg c0])
    rw [HT.out]
    clear h hx hy HT
    go_enter Try.func13, Try.ntmps13
    go_wp2_with fail
    refine (core_c hash A c s.on base _ HQ.out h0 h8 hh).mono ?_
    rintro e w' ⟨rfl, rfl⟩
    go_wp2
    go_ret2
    exact ⟨rfl, rfl⟩
end Go.Proofs.Ytggfjnicofgohaa.Sf
