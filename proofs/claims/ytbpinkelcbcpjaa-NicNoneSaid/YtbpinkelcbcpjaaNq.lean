import Derived.Test.YtbpinkelcbcpjaaNp
namespace Go.Proofs.Ytbpinkelcbcpjaa.Ni
open Go.RowKit Blk Go.Proofs.YtbpinkelcbcpjaaW.PrintWords
set_option linter.unusedVariables false

theorem ch_below {w w' : World} (h : Ch nob w w') : Below w.heap.size w w' := h.below _ (Nat.le_refl _) fun _ _ => id
set_option maxHeartbeats 8000000 in
set_option maxRecDepth 100000 in
theorem none_k (q n hash : Int) (w : World) : Calls Try.prog 4 #[.int .i64 q, .int .i64 n, .int .u32 hash] w fun e w' => e = .returned (.bool true) ∧ Below w.heap.size w w' := by
  go_enter Try.func4, Try.ntmps4
  go_wp2_with fail
  refine (slot_c hash ⟨#[97]⟩ w).mono ?_
  rintro e w1 ⟨rfl, hC1⟩
  go_wp2_with fail
  refine (came_nil (hash, ⟨#[97]⟩) w1).mono ?_
  rintro e w2 ⟨rfl, hC2⟩
  have HC := Lib.hid (ch_below (hC1.trans hC2))
  clear hC1 hC2
  go_wp2_with fail
  refine (poll_nil q n w2).mono ?_
  rintro e w3 ⟨rfl, rfl⟩
  go_wp2_with fail
  refine (dropped_nil w2).mono ?_
  rintro e w3 ⟨rfl, rfl⟩
  go_wp2_with fail
  refine (table_nil w2).mono ?_
  rintro e w3 ⟨rfl, rfl⟩
  go_wp2_with fail
  refine (raised_nil w2).mono ?_
  rintro e w3 ⟨rfl, rfl⟩
  go_wp2_with fail
  refine (waits_nil q w2).mono ?_
  rintro e w3 ⟨rfl, rfl⟩
  go_wp2_with fail
  refine (send_nil q ⟨#[97]⟩ w2).mono ?_
  rintro e w3 ⟨rfl, rfl⟩
  go_wp2_with fail
  refine (gone_nil q n w2).mono ?_
  rintro e w3 ⟨rfl, rfl⟩
  go_wp2_with fail
  refine (sends_nil q w2).mono ?_
  rintro e w3 ⟨rfl, rfl⟩
  go_wp2_with fail
  refine (works_k w w2 HC.out).mono ?_
  rintro e w3 ⟨rfl, hb⟩
  go_wp2
  go_ret
  exact ⟨rfl, hb⟩
end Go.Proofs.Ytbpinkelcbcpjaa.Ni
