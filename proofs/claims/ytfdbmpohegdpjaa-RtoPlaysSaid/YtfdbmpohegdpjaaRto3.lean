import Derived.Test.YtfdbmpohegdpjaaRto2
namespace Go.Proofs.Ytfdbmpohegdpjaa.Rto
open Go.RowKit Blk
set_option linter.unusedVariables false

/-- One object of the call's own, at block b; nothing else has turned. -/
structure Lone (w0 : World) (b : Nat) (s : St) (w : World) : Prop where
  below : Below w0.heap.size w0 w
  lies : At w b s
  base : w0.heap.size ≤ b

theorem Lone.same {w0 w w2 : World} {b : Nat} {s : St} (h : Lone w0 b s w) (k : Same w w2) : Lone w0 b s w2 :=
  ⟨⟨k.os.trans h.below.os, k.tape.trans h.below.tape, k.output.trans h.below.output, by rw [k.heap]; exact h.below.size, fun i hi => by rw [k.heap]; exact h.below.block i hi⟩, h.lies.same k, h.base⟩
theorem Lone.step {w0 w w2 : World} {b : Nat} {s s2 : St} (h : Lone w0 b s w) (hA : At w2 b s2) (k : Ch (· = b) w w2) : Lone w0 b s2 w2 :=
  ⟨⟨k.os.trans h.below.os, k.tape.trans h.below.tape, k.output.trans h.below.output, Nat.le_trans h.below.size k.size, fun i hi => by
    have := h.base
    rw [k.block i (Nat.lt_of_lt_of_le hi h.below.size) (by omega)]; exact h.below.block i hi⟩, hA, h.base⟩
theorem Lone.other {w0 w w2 : World} {b : Nat} {s : St} (h : Lone w0 b s w) (k : Below w.heap.size w w2) : Lone w0 b s w2 :=
  ⟨⟨k.os.trans h.below.os, k.tape.trans h.below.tape, k.output.trans h.below.output, Nat.le_trans h.below.size k.size, fun i hi => by
    rw [k.block i (Nat.lt_of_lt_of_le hi h.below.size)]; exact h.below.block i hi⟩, Has.below h.lies k (Has.lt h.lies), h.base⟩

theorem new_l (w0 w : World) (h : Below w0.heap.size w0 w) : Calls Try.prog 8 #[] w fun e w' => e = .returned (.pointer (some ⟨w.heap.size, 0, none⟩)) ∧ Lone w0 w.heap.size St.zero w' := by
  refine (new_k w).mono ?_
  rintro e w' ⟨rfl, hA, hB, hz⟩
  exact ⟨rfl, ⟨⟨hB.os.trans h.os, hB.tape.trans h.tape, hB.output.trans h.output, Nat.le_trans h.size hB.size, fun i hi => by
    rw [hB.block i (Nat.lt_of_lt_of_le hi h.size)]; exact h.block i hi⟩, hA, h.size⟩⟩
theorem time_l {w0 w : World} {b : Nat} {s : St} (h : Lone w0 b s w) (ho : s.Ok) :
    Calls Try.prog 14 #[.pointer (some ⟨b, 0, none⟩)] w fun e w' => e = .returned (.int .i64 s.time) ∧ Lone w0 b s w' := by
  refine (time_k s b w h.lies ho).mono ?_
  rintro e w' ⟨rfl, k⟩
  exact ⟨rfl, h.same k⟩
theorem smooth_l {w0 w : World} {b : Nat} {s : St} (h : Lone w0 b s w) (ho : s.Ok) :
    Calls Try.prog 13 #[.pointer (some ⟨b, 0, none⟩)] w fun e w' => e = .returned (.tuple #[.int .i64 (s.m / 8), .int .i64 (s.o / 4)]) ∧ Lone w0 b s w' := by
  refine (smooth_k s b w h.lies ho).mono ?_
  rintro e w' ⟨rfl, k⟩
  exact ⟨rfl, h.same k⟩
theorem backs_l {w0 w : World} {b : Nat} {s : St} (h : Lone w0 b s w) :
    Calls Try.prog 16 #[.pointer (some ⟨b, 0, none⟩)] w fun e w' => e = .returned (.int .i64 s.bk) ∧ Lone w0 b s w' := by
  refine (backs_k s b w h.lies).mono ?_
  rintro e w' ⟨rfl, rfl⟩
  exact ⟨rfl, h⟩
theorem late_l {w0 w : World} {b : Nat} {s : St} (h : Lone w0 b s w) (ho : s.Ok) (hb : s.bk < 1000000) :
    Calls Try.prog 9 #[.pointer (some ⟨b, 0, none⟩)] w fun e w' => e = .returned (.tuple #[]) ∧ Lone w0 b s.late w' := by
  refine (late_k s b w h.lies ho hb).mono ?_
  rintro e w' ⟨rfl, hA, k⟩
  exact ⟨rfl, h.step hA k⟩
theorem measure_l {w0 w : World} {b : Nat} {s : St} (t : Int) (h : Lone w0 b s w) (ho : s.Ok) :
    Calls Try.prog 11 #[.pointer (some ⟨b, 0, none⟩), .int .i64 t] w fun e w' => e = .returned (.tuple #[]) ∧ Lone w0 b (s.measure t) w' := by
  refine (measure_k s b t w h.lies ho).mono ?_
  rintro e w' ⟨rfl, hA, k⟩
  exact ⟨rfl, h.step hA k⟩

set_option maxHeartbeats 2000000 in
theorem alive_k (w0 w : World) (h0 : Below w0.heap.size w0 w) : Calls Try.prog 7 #[] w fun e w' => e = .returned (.bool true) ∧ Below w0.heap.size w0 w' := by
  go_enter Try.func7, Try.ntmps7
  go_wp2_with fail
  refine (new_l w0 w h0).mono ?_
  rintro e w1 ⟨rfl, HL⟩
  go_wp2_with fail
  refine (time_l HL ⟨by decide +kernel, by decide +kernel, by decide +kernel, by decide +kernel, by decide +kernel, by decide +kernel⟩).mono ?_
  clear HL
  rintro e w1 ⟨rfl, HL⟩
  rw [show St.time St.zero = 1000 from by decide +kernel]
  go_wp2_with fail
  refine (late_l HL ⟨by decide +kernel, by decide +kernel, by decide +kernel, by decide +kernel, by decide +kernel, by decide +kernel⟩ (by decide +kernel)).mono ?_
  clear HL
  rintro e w1 ⟨rfl, HL⟩
  go_wp2_with fail
  refine (late_l HL ⟨by decide +kernel, by decide +kernel, by decide +kernel, by decide +kernel, by decide +kernel, by decide +kernel⟩ (by decide +kernel)).mono ?_
  clear HL
  rintro e w1 ⟨rfl, HL⟩
  go_wp2_with fail
  refine (time_l HL ⟨by decide +kernel, by decide +kernel, by decide +kernel, by decide +kernel, by decide +kernel, by decide +kernel⟩).mono ?_
  clear HL
  rintro e w1 ⟨rfl, HL⟩
  rw [show St.time St.zero.late.late = 4000 from by decide +kernel]
  go_wp2_with fail
  refine (measure_l 100 HL ⟨by decide +kernel, by decide +kernel, by decide +kernel, by decide +kernel, by decide +kernel, by decide +kernel⟩).mono ?_
  clear HL
  rintro e w1 ⟨rfl, HL⟩
  rw [show St.measure St.zero.late.late 100 = (⟨800, 200, true, 0⟩ : St) from by decide +kernel] at HL
  go_wp2_with fail
  refine (time_l HL ⟨by decide +kernel, by decide +kernel, by decide +kernel, by decide +kernel, by decide +kernel, by decide +kernel⟩).mono ?_
  clear HL
  rintro e w1 ⟨rfl, HL⟩
  rw [show St.time (⟨800, 200, true, 0⟩ : St) = 300 from by decide +kernel]
  go_wp2_with fail
  refine (backs_l HL).mono ?_
  clear HL
  rintro e w1 ⟨rfl, HL⟩
  go_wp2_with fail
  refine (measure_l 100 HL ⟨by decide +kernel, by decide +kernel, by decide +kernel, by decide +kernel, by decide +kernel, by decide +kernel⟩).mono ?_
  clear HL
  rintro e w1 ⟨rfl, HL⟩
  rw [show St.measure (⟨800, 200, true, 0⟩ : St) 100 = (⟨800, 150, true, 0⟩ : St) from by decide +kernel] at HL
  go_wp2_with fail
  refine (time_l HL ⟨by decide +kernel, by decide +kernel, by decide +kernel, by decide +kernel, by decide +kernel, by decide +kernel⟩).mono ?_
  clear HL
  rintro e w1 ⟨rfl, HL⟩
  rw [show St.time (⟨800, 150, true, 0⟩ : St) = 250 from by decide +kernel]
  go_wp2_with fail
  refine (smooth_l HL ⟨by decide +kernel, by decide +kernel, by decide +kernel, by decide +kernel, by decide +kernel, by decide +kernel⟩).mono ?_
  clear HL
  rintro e w1 ⟨rfl, HL⟩
  go_wp2
  go_ret
  exact ⟨by first | rfl | (simp; done), HL.below⟩

set_option maxHeartbeats 2000000 in
theorem nil_k (t : Int) (w : World) : Calls Try.prog 6 #[.int .i64 t] w fun e w' => e = .returned (.bool true) ∧ Below w.heap.size w w' := by
  have n11 : ∀ W, Calls Try.prog 11 #[.pointer none, .int .i64 t] W fun e w' => e = .returned (.tuple #[]) ∧ W = w' := by
    intro W
    go_enter Try.func11, Try.ntmps11
    go_wp2
    exact bodyPost_ret (v := .tuple #[]) (by simp [results, Try.results11, go_sem]) rfl ⟨rfl, rfl⟩
  have n9 : ∀ W, Calls Try.prog 9 #[.pointer none] W fun e w' => e = .returned (.tuple #[]) ∧ W = w' := by
    intro W
    go_enter Try.func9, Try.ntmps9
    go_wp2
    go_end0
    exact ⟨rfl, rfl⟩
  have n13 : ∀ W, Calls Try.prog 13 #[.pointer none] W fun e w' => e = .returned (.tuple #[.int .i64 0, .int .i64 0]) ∧ W = w' := by
    intro W
    go_enter Try.func13, Try.ntmps13
    go_wp2
    go_ret2
    exact ⟨rfl, rfl⟩
  have n14 : ∀ W, Calls Try.prog 14 #[.pointer none] W fun e w' => e = .returned (.int .i64 0) ∧ W = w' := by
    intro W
    go_enter Try.func14, Try.ntmps14
    go_wp2
    go_ret
    exact ⟨rfl, rfl⟩
  have n16 : ∀ W, Calls Try.prog 16 #[.pointer none] W fun e w' => e = .returned (.int .i64 0) ∧ W = w' := by
    intro W
    go_enter Try.func16, Try.ntmps16
    go_wp2
    go_ret
    exact ⟨rfl, rfl⟩
  have N11 := Lib.hid n11
  have N9 := Lib.hid n9
  have N13 := Lib.hid n13
  have N14 := Lib.hid n14
  have N16 := Lib.hid n16
  clear n11 n9 n13 n14 n16
  go_enter Try.func6, Try.ntmps6
  go_wp2_with fail
  refine (N11.out _).mono ?_
  rintro e w1 ⟨rfl, rfl⟩
  go_wp2_with fail
  refine (N9.out _).mono ?_
  rintro e w1 ⟨rfl, rfl⟩
  go_wp2_with fail
  refine (N13.out _).mono ?_
  rintro e w1 ⟨rfl, rfl⟩
  go_wp2_with fail
  refine (N14.out _).mono ?_
  rintro e w1 ⟨rfl, rfl⟩
  go_wp2_with fail
  refine (N16.out _).mono ?_
  rintro e w1 ⟨rfl, rfl⟩
  go_wp2_with fail
  refine (alive_k w w (Below.refl _ _)).mono ?_
  rintro e w1 ⟨rfl, hb⟩
  go_wp2
  go_ret
  exact ⟨by first | rfl | (simp; done), hb⟩
end Go.Proofs.Ytfdbmpohegdpjaa.Rto
