import Derived.Test.YtbpinkelcbcpjaaNo
namespace Go.Proofs.Ytbpinkelcbcpjaa.Ni
open Go.RowKit Blk Go.Proofs.YtbpinkelcbcpjaaW.PrintWords
set_option linter.unusedVariables false

theorem came_nil (x : Sl) (w : World) : Calls Try.prog 18 #[.pointer none, .agg #[.int .u32 x.1, .string x.2]] w fun e w' => e = .returned (.tuple #[.int .i64 0, .int .i64 1]) ∧ Ch nob w w' := by
  have HC := Lib.hid (Ch.refl nob w)
  go_enter Try.func18, Try.ntmps18
  go_wp2
  go_ret2
  exact ⟨rfl, HC.out.alloc _⟩
theorem poll_nil (x n : Int) (w : World) : Calls Try.prog 20 #[.pointer none, .int .i64 x, .int .i64 n] w fun e w' => e = .returned (.tuple #[.slice none 0 0, .int .i64 1]) ∧ w = w' := by
  go_enter Try.func20, Try.ntmps20
  go_wp2_with fail
  refine (of_nil x w).mono ?_
  rintro e w1 ⟨rfl, rfl⟩
  go_wp2
  go_ret2
  exact ⟨rfl, rfl⟩
theorem dropped_nil (w : World) : Calls Try.prog 17 #[.pointer none] w fun e w' => e = .returned (.tuple #[.int .u64 0, .int .u64 0]) ∧ w = w' := by
  go_enter Try.func17, Try.ntmps17
  go_wp2
  go_ret2
  exact ⟨rfl, rfl⟩
theorem table_nil (w : World) : Calls Try.prog 21 #[.pointer none, .slice none 0 0] w fun e w' => e = .returned (.int .i64 1) ∧ w = w' := by
  go_enter Try.func21, Try.ntmps21
  go_wp2
  go_ret
  exact ⟨rfl, rfl⟩
theorem waits_nil (x : Int) (w : World) : Calls Try.prog 15 #[.pointer none, .int .i64 x] w fun e w' => e = .returned (.int .i64 0) ∧ w = w' := by
  go_enter Try.func15, Try.ntmps15
  go_wp2_with fail
  refine (of_nil x w).mono ?_
  rintro e w1 ⟨rfl, rfl⟩
  go_wp2
  go_ret
  exact ⟨rfl, rfl⟩
theorem sends_nil (x : Int) (w : World) : Calls Try.prog 16 #[.pointer none, .int .i64 x] w fun e w' => e = .returned (.int .i64 0) ∧ w = w' := by
  go_enter Try.func16, Try.ntmps16
  go_wp2_with fail
  refine (of_nil x w).mono ?_
  rintro e w1 ⟨rfl, rfl⟩
  go_wp2
  go_ret
  exact ⟨rfl, rfl⟩
theorem send_nil (x : Int) (t : ByteArray) (w : World) : Calls Try.prog 22 #[.pointer none, .int .i64 x, .string t] w fun e w' => e = .returned (.int .i64 1) ∧ w = w' := by
  go_enter Try.func22, Try.ntmps22
  go_wp2_with fail
  refine (of_nil x w).mono ?_
  rintro e w1 ⟨rfl, rfl⟩
  go_wp2
  go_ret
  exact ⟨rfl, rfl⟩
theorem gone_nil (x n : Int) (w : World) : Calls Try.prog 23 #[.pointer none, .int .i64 x, .int .i64 n] w fun e w' => e = .returned (.slice none 0 0) ∧ w = w' := by
  go_enter Try.func23, Try.ntmps23
  go_wp2_with fail
  refine (of_nil x w).mono ?_
  rintro e w1 ⟨rfl, rfl⟩
  go_wp2
  go_ret
  exact ⟨rfl, rfl⟩
set_option maxHeartbeats 8000000 in
set_option maxRecDepth 100000 in
theorem works_k (w0 w : World) (h0 : Below w0.heap.size w0 w) : Calls Try.prog 9 #[] w fun e w' => e = .returned (.bool true) ∧ Below w0.heap.size w0 w' := by
  go_enter Try.func9, Try.ntmps9
  go_wp2_with fail
  refine (new_o w0 w h0 1 2 (by decide) (by decide)).mono ?_
  rintro e w1 ⟨b, rfl, HO, _⟩
  change Own w0 w1.heap.size b s0 w1 at HO
  generalize w1.heap.size = top at HO ⊢
  go_wp2_with fail
  refine (slot_c 1 ⟨#[97]⟩ w1).mono ?_
  rintro e w2 ⟨rfl, hC⟩
  replace HO := HO.still hC
  clear hC
  go_wp2_with fail
  refine (came_o HO xa (by decide)).mono ?_
  rintro e w3 ⟨rfl, HO1, _⟩
  change Own w0 top b s1 w3 at HO1
  clear HO
  go_wp2_with fail
  refine (slot_c 2 ⟨#[98]⟩ w3).mono ?_
  rintro e w4 ⟨rfl, hC⟩
  replace HO1 := HO1.still hC
  clear hC
  go_wp2_with fail
  refine (came_o HO1 xb (by decide)).mono ?_
  rintro e w5 ⟨rfl, HO2, _⟩
  change Own w0 top b s2 w5 at HO2
  clear HO1
  go_wp2_with fail
  refine (slot_c 3 ⟨#[99]⟩ w5).mono ?_
  rintro e w6 ⟨rfl, hC⟩
  replace HO2 := HO2.still hC
  clear hC
  go_wp2_with fail
  refine (came_o HO2 xc (by decide)).mono ?_
  rintro e w7 ⟨rfl, HO3, _⟩
  change Own w0 top b s3 w7 at HO3
  rw [ex3]
  clear HO2
  go_wp2_with fail
  refine (poll_o HO3 0 1).mono ?_
  rintro e w8 ⟨⟨A, k, hk, rfl, hq⟩, HO4, _⟩
  change Own w0 top b s4 w8 at HO4
  rw [ex4] at hk hq
  obtain rfl : k = 1 := hk
  rw [ex4']
  obtain ⟨g, o, rfl, hg, hcell⟩ := q_at hq (by decide)
  have hgt : top ≤ g := Nat.le_trans HO3.tz hg
  have c1 : w8.cell? ⟨g, o + 1, none⟩ = some (.string ⟨#[97]⟩) := (hcell 1 _ rfl).1
  have hgl : g < w8.heap.size := q_lt hq g rfl
  clear HO3 hq hg hcell
  go_wp2_with fail
  refine (raised_o HO4).mono ?_
  rintro e w9 ⟨⟨A2, c2, rfl, _⟩, HO5, hU5⟩
  rw [ex5]
  clear HO4
  go_wp2_with fail
  refine (poll_o HO5 0 2).mono ?_
  rintro e w10 ⟨⟨A3, k3, hk3, rfl, _⟩, HO6, hU6⟩
  rw [ex6] at hk3
  subst hk3
  change Own w0 top b s5 w10 at HO6
  rw [ex6']
  clear HO5
  go_wp2_with fail
  refine (slot_c 4 ⟨#[100]⟩ w10).mono ?_
  rintro e w11 ⟨rfl, hC⟩
  replace HO6 := HO6.still hC
  have hU7 := none_up (top := top) hC
  clear hC
  go_wp2_with fail
  refine (came_o HO6 xd (by decide)).mono ?_
  rintro e w12 ⟨rfl, HO7, hU8⟩
  change Own w0 top b s6 w12 at HO7
  clear HO6
  go_wp2_with fail
  refine (dropped_o HO7).mono ?_
  rintro e w13 ⟨rfl, HO8, hU9⟩
  rw [ex7]
  clear HO7
  have hU := (((hU5.trans hU6).trans hU7).trans hU8).trans hU9
  have d1 : w13.cell? ⟨g, o + 1, none⟩ = some (.string ⟨#[97]⟩) := by
    rw [← c1]
    have := hU.block g hgl (by omega)
    unfold World.cell?
    rw [this]
  clear hU hU5 hU6 hU7 hU8 hU9 c1
  go_wp2_with fail
  refine (raised_o HO8).mono ?_
  rintro e w14 ⟨⟨A4, c4, rfl, _⟩, HO9, _⟩
  rw [ex8]
  have HB := Lib.hid HO9.below
  clear HO8 HO9
  go_wp2
  go_ret
  exact ⟨rfl, HB.out⟩
end Go.Proofs.Ytbpinkelcbcpjaa.Ni
