import Derived.Test.YtggfjnicofgohaaSf9
namespace Go.Proofs.Ytggfjnicofgohaa.Sf
open Go.RowKit Blk Go.Proofs.YtggfjnicofgohaaW.PrintWords
set_option linter.unusedVariables false

theorem nil33 (w : World) (a : Option Addr) (n c n' c' : Nat) : (binOp .eql 33 (.slice a n c) (.slice none n' c')).run Try.prog w = .ok (.bool a.isNone) w := Lib.run_eql_slice_nil w 33 3 a n c n' c' Try.underlying33

def ClonePost (w : World) (on : List Int) (e : Ending) (w' : World) : Prop := ∃ A c, e = .returned (.slice A on.length c) ∧ QRow w' w.heap.size 3 1 (.slice A on.length c) on.length (on.map (Value.int .i64)) ∧ Below w.heap.size w w'
theorem clone_post {w : World} {on : List Int} {e : Ending} {w' : World} {A : Option Addr} {c : Nat} (h1 : e = .returned (.slice A on.length c)) (h2 : QRow w' w.heap.size 3 1 (.slice A on.length c) on.length (on.map (Value.int .i64))) (h3 : Below w.heap.size w w') : ClonePost w on e w' := ⟨A, c, h1, h2, h3⟩

set_option maxHeartbeats 2000000 in
theorem clone_c {w : World} {base : Nat} (A : Option Addr) (c : Nat) (on : List Int) (hq : QRow w base 3 1 (.slice A on.length c) on.length (on.map (Value.int .i64))) (h1 : 1 ≤ on.length) (h2 : on.length ≤ 1000000) :
    Calls Try.prog 23 #[.slice A on.length c] w (ClonePost w on) := by
  obtain ⟨g, o, rfl, _, hc⟩ := q_at hq (by omega)
  obtain ⟨i0, hi0, hz0, hz1, hz2⟩ := info_parts info3
  have hq0 : QRow (w.alloc (.cells #[] 3)) w.heap.size 3 1 (.slice (some ⟨w.heap.size, 0, none⟩) 0 0) 0 [] :=
    ⟨rfl, .inl ⟨rfl, _, rfl, fun a ha => by injection ha with ha; subst ha; exact ⟨Nat.le_refl _, _, Has.new w [] 3⟩⟩⟩
  obtain ⟨v', w1, hrun, hq', hg, hat⟩ := q_append (P := Try.prog) (w.alloc (.cells #[] 3)) w.heap.size 33 33 3 i0 (.int .i64 0) 1 8 Try.underlying33 hi0 hz0 hz1 hz2 rfl (by decide) _ _ _ hq0 ⟨g, o, none⟩ on.length c (on.map (Value.int .i64)) (by simp)
    (fun j u hu => by
      rw [add_at]
      have := (hc j u hu).1
      exact ((Below.refl w.heap.size w).alloc (Nat.le_refl _) (.cells #[] 3)).cell (World.block_lt_of_cell? _ _ this) |>.trans this)
    (fun u hu => by obtain ⟨x, _, rfl⟩ := List.mem_map.1 hu; rfl) (by omega) (by unfold maxLen; omega) (by omega) (by rw [alloc_size]; omega)
  rw [Nat.zero_add, List.nil_append] at hq'
  obtain ⟨A', c', rfl, _⟩ := q_slice hq'
  have hB : Below w.heap.size w w1 := by
    refine ((Below.refl w.heap.size w).alloc (Nat.le_refl _) (.cells #[] 3)).trans ⟨hg.os, hg.tape, hg.output, hg.size, fun k hk => hg.block k (by rw [alloc_size]; omega) (fun e => ?_)⟩
    have : k = w.heap.size := by simpa [Value.ownBlock] using e
    omega
  have HRUN := Lib.hid hrun
  have HQ := Lib.hid hq'
  have HB := Lib.hid hB
  have hnil := nil33
  clear hrun hq' hB hg hat hc hq hq0 hi0 hz0 hz1 hz2
  go_enter Try.func23, Try.ntmps23
  go_wp2_with (at_builtin; refine wpList_app rfl _ _ 33 rfl (.slice (some ⟨w.heap.size, 0, none⟩) 0 0) (.slice (some ⟨g, o, none⟩) on.length c) (.slice A' on.length c') _ w1 rfl rfl HRUN.out ?_)
  go_ret
  exact clone_post rfl HQ.out HB.out
end Go.Proofs.Ytggfjnicofgohaa.Sf
