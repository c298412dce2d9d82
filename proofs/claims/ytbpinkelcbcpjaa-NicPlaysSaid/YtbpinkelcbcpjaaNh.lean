import Derived.Test.YtbpinkelcbcpjaaNg
namespace Go.Proofs.Ytbpinkelcbcpjaa.Ni
open Go.RowKit Blk Go.Proofs.YtbpinkelcbcpjaaW.PrintWords
set_option linter.unusedVariables false

theorem zeros_S (n : Nat) : madeCells #[.int .u32 0, .string ⟨#[]⟩] (n * 2) = (flat (List.replicate n (0, ⟨#[]⟩))).toArray := by
  apply Array.ext
  · rw [size_madeCells, List.size_toArray, flat_len, List.length_replicate]
  · intro i h1 h2
    rw [size_madeCells] at h1
    have hj : i / 2 < n := by omega
    obtain ⟨d0, d1⟩ := flat_at (List.replicate n ((0 : Int), (⟨#[]⟩ : ByteArray))) (i / 2) (0, ⟨#[]⟩) (by rw [List.getElem?_replicate, if_pos hj])
    have hl : i < (flat (List.replicate n ((0 : Int), (⟨#[]⟩ : ByteArray)))).length := by rw [flat_len, List.length_replicate]; exact h1
    rcases Nat.mod_two_eq_zero_or_one i with e | e
    · have hi : i = i / 2 * 2 := by omega
      rw [← hi] at d0
      rw [List.getElem?_eq_getElem hl] at d0
      injection d0 with d0
      simp only [List.getElem_toArray]
      rw [d0]
      simp [madeCells, e]
    · have hi : i = i / 2 * 2 + 1 := by omega
      rw [← hi] at d1
      rw [List.getElem?_eq_getElem hl] at d1
      injection d1 with d1
      simp only [List.getElem_toArray]
      rw [d1]
      simp [madeCells, e]
theorem made_cells (z : Value) (n : Nat) : madeCells #[z] n = (List.replicate n z).toArray := by
  apply Array.ext
  · simp [madeCells]
  · intro i h1 h2
    simp [madeCells]
    rw [Nat.mod_one]; rfl
/-- The even table, as far as it is laid. -/
def ev (n k : Nat) : List Int := (List.range 128).map fun i => if i < k then ((i % n : Nat) : Int) else 0
theorem ev_len (n k : Nat) : (ev n k).length = 128 := by simp [ev]
theorem ev_zero (n : Nat) : (ev n 0).map (Value.int .i64) = List.replicate 128 (.int .i64 0) := by
  unfold ev
  simp only [Nat.not_lt_zero, if_false, List.map_const', List.length_range, List.map_replicate]
theorem ev_succ (n k : Nat) (hk : k < 128) : ((ev n k).map (Value.int .i64)).set k (.int .i64 ((k % n : Nat) : Int)) = (ev n (k + 1)).map (Value.int .i64) := by
  unfold ev
  refine List.ext_getElem (by simp) fun i h1 h2 => ?_
  rw [List.getElem_set]
  simp only [List.getElem_map, List.getElem_range]
  by_cases e : k = i
  · subst e
    rw [if_pos rfl, if_pos (by omega)]
  · rw [if_neg e]
    by_cases h : i < k
    · rw [if_pos h, if_pos (by omega)]
    · rw [if_neg h, if_neg (by omega)]
set_option maxHeartbeats 2000000 in
set_option maxRecDepth 100000 in
theorem even_c (n : Nat) (w : World) (hn : 1 ≤ n ∧ n ≤ 8) :
    Calls Try.prog 24 #[.int .i64 n] w fun e w' => e = .returned (.slice (some ⟨w.heap.size, 0, none⟩) 128 128) ∧ Has w' w.heap.size ((ev n 128).map (Value.int .i64)) 3 ∧ Ch nob w w' := by
  obtain ⟨i0, hi0, hz0, hz1, hz2⟩ := info_parts info3
  have hmk : ∀ W : World, (Instr.makeSlice 35 (.int .i64 128) (.int .i64 128)).run Try.prog W = .ok (.slice (some ⟨W.heap.size, 0, none⟩) 128 128) (W.alloc (.cells ((ev n 0).map (Value.int .i64)).toArray 3)) := fun W => by
    have := run_make (P := Try.prog) W 35 3 i0 _ Try.underlying35 hi0 hz0 .i64 .i64 128 128 (by omega) (Int.le_refl _) (by rw [hz2]; omega) (by omega)
    rw [hz1] at this
    rw [ev_zero, ← made_cells]
    exact this
  obtain ⟨g, hg⟩ : ∃ g, g = w.heap.size := ⟨_, rfl⟩
  have hX := Lib.hid (Has.new w ((ev n 0).map (Value.int .i64)) 3)
  have hC := Lib.hid ((Ch.refl nob w).alloc (.cells ((ev n 0).map (Value.int .i64)).toArray 3))
  obtain ⟨W1, hW1⟩ : ∃ W1, W1 = w.alloc (.cells ((ev n 0).map (Value.int .i64)).toArray 3) := ⟨_, rfl⟩
  rw [← hW1, ← hg] at hX
  rw [← hW1] at hC
  obtain ⟨hn1, hn8⟩ := hn
  have HG := Lib.hid hg
  go_enter Try.func24, Try.ntmps24
  go_wp2
  rw [← hW1, ← hg]
  clear hW1 hg hmk
  go_loopg [4, 14] 128 (fun gk v4 vi wr => ∃ k : Nat, k + gk = 128 ∧ vi = .int .i64 k ∧ Hid (Has wr g ((ev n k).map (Value.int .i64)) 3) ∧ Hid (Ch nob w wr))
  case atStart => exact ⟨0, by omega, rfl, hX, hC⟩
  case round =>
    clear hX hC
    obtain ⟨k, hkg, rfl, hX, hC⟩ := hrel
    by_cases hk : k < 128
    · have hm : (k : Int).tmod (n : Int) = ((k % n : Nat) : Int) := by
        rw [Int.tmod_eq_emod_of_nonneg (by omega)]
        rfl
      have hne : (n : Int) ≠ 0 := by omega
      have hn0 : n ≠ 0 := by omega
      have hkl : k < (ev n k).length := by rw [ev_len]; exact hk
      obtain ⟨old, hold⟩ : ∃ old, (ev n k)[k]? = some old := ⟨_, List.getElem?_eq_getElem hkl⟩
      have c0 : wr.cell? ⟨g, k, none⟩ = some (.int .i64 old) := hX.out.cell (by rw [List.getElem?_map, hold]; rfl)
      clear hold hkl
      have f0 := hX.out.free k
      have hX' := hX.out.set k (.int .i64 ((k % n : Nat) : Int))
      rw [ev_succ n k hk] at hX'
      have HX' := Lib.hid hX'
      have HC' := Lib.hid (hC.out.set ⟨g, k, none⟩ (.int .i64 ((k % n : Nat) : Int)) (.inr (by rw [HG.out]; exact Nat.le_refl _)))
      clear hX hC hX'
      generalize ((k % n : Nat) : Int) = y at *
      go_wp2
      go_roundg (128 - (k + 1))
      case measure => omega
      case rel => exact ⟨k + 1, by omega, by go_num, HX', HC'⟩
    · obtain rfl : k = 128 := by omega
      go_wp2
      go_ret
      rw [HG.out] at hX ⊢
      exact ⟨rfl, hX.out, hC.out⟩
end Go.Proofs.Ytbpinkelcbcpjaa.Ni
