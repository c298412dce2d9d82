import Derived.Test.YtbpinkelcbcpjaaNk
import Derived.Deep.RegionLaw
import Derived.Deep.CutRange
namespace Go.Proofs.Ytbpinkelcbcpjaa.Ni
open Go.RowKit Blk Go.Proofs.YtbpinkelcbcpjaaW.PrintWords
set_option linter.unusedVariables false

section
variable {P : Program} {ops : Array Oper} {rest : List Oper} {o : Oper} {a : Act} {Q' : Exit → Act → World → Prop}
/-- An append whose run is known. -/
theorem wpList_app (hgd : o.guard = none) (s x : Operand) (t : TypeId) (ho : o.op = .call { callee := .builtin .append, args := #[s, x], argTypes := #[t, t] })
    (v u v' : Value) (w w' : World) (hs : a.eval s = v) (hx : a.eval x = u) (hr : (Builtin.append_ #[t, t] o.type #[v, u]).run P w = .ok v' w')
    (h : wpList P ops Q' rest (a.put o.dst v') w') : wpList P ops Q' (o :: rest) a w := by
  refine wpList_plain hgd fun K hK => ?_
  unfold Oper.wp execOp
  simp only [ho, resolve, invoke, builtin, Sem.run_bind, Sem.run_pure, Result.andThen_ok, List.map_toArray, List.map_cons, List.map_nil, hs, hx, hr]
  exact hK _ _ h
/-- The same in a region that draws its order. -/
theorem step_app {Kc : Act → World → Prop} (hw : Region.wanted o (yielded ops a.tmps) = true) (s x : Operand) (t : TypeId) (ho : o.op = .call { callee := .builtin .append, args := #[s, x], argTypes := #[t, t] })
    (v u v' : Value) (w w' : World) (hs : a.eval s = v) (hx : a.eval x = u) (hr : (Builtin.append_ #[t, t] o.type #[v, u]).run P w = .ok v' w')
    (h : Kc (a.put o.dst v') w') : if Region.wanted o (yielded ops a.tmps) = true then Oper.wp P o a w Kc Q' else Kc (a.put o.dst undef) w := by
  rw [if_pos hw]
  unfold Oper.wp execOp
  simp only [ho, resolve, invoke, builtin, Sem.run_bind, Sem.run_pure, Result.andThen_ok, List.map_toArray, List.map_cons, List.map_nil, hs, hx, hr]
  exact h
end
def NewPost (w : World) (n size : Nat) (b : Nat) (w' : World) : Prop := (∃ L, At w' w.heap.size w'.heap.size b L (fresh n size)) ∧ Below w.heap.size w w'
set_option maxHeartbeats 8000000 in
set_option maxRecDepth 100000 in
theorem new_c (n size : Nat) (w : World) (h1 : 1 ≤ n ∧ n ≤ 8) (h2 : 1 ≤ size ∧ size ≤ 256) :
    Calls Try.prog 10 #[.int .i64 n, .int .i64 size] w fun e w' => ∃ b, e = .returned (.tuple #[.pointer (some ⟨b, 0, none⟩), .int .i64 0]) ∧ NewPost w n size b w' := by
  obtain ⟨hn1, hn8⟩ := id h1
  obtain ⟨hs1, hs8⟩ := id h2
  go_enter Try.func10, Try.ntmps10
  go_wp2_with fail
  refine (even_c n w h1).mono ?_
  rintro e w1 ⟨rfl, hT, hC⟩
  go_wp2
  have hY : Yg (w1.alloc (.cells #[.slice none 0 0, .slice (some ⟨w.heap.size, 0, none⟩) 128 128, .int .u64 0, .int .u64 0] 70)) w.heap.size w1.heap.size size n 0 ⟨.slice none 0 0, .slice (some ⟨w.heap.size, 0, none⟩) 128 128, id, id, id⟩ :=
    ⟨Has.new w1 [.slice none 0 0, .slice (some ⟨w.heap.size, 0, none⟩) 128 128, .int .u64 0, .int .u64 0] 70, q_none _ _ _ _, q_of_has (hT.alloc _) (by rw [List.length_map, ev_len]) (Nat.le_refl _) (by decide), fun i hi => by omega, fun i j hi => by omega, hC.size, fun i hi => by omega, by rw [alloc_size]; exact Nat.le_succ_of_le hC.size⟩
  have HY : Hid (∃ L, Yg (w1.alloc (.cells #[.slice none 0 0, .slice (some ⟨w.heap.size, 0, none⟩) 128 128, .int .u64 0, .int .u64 0] 70)) w.heap.size w1.heap.size size n 0 L) := Lib.hid ⟨_, hY⟩
  have HB := Lib.hid ((hC.alloc (.cells #[.slice none 0 0, .slice (some ⟨w.heap.size, 0, none⟩) 128 128, .int .u64 0, .int .u64 0] 70)).below w.heap.size (Nat.le_refl _) fun _ _ => id)
  clear hY hT hC
  generalize w1.alloc _ = W1 at *
  generalize w1.heap.size = b at *
  go_loopg [26] n (fun g vi wr => ∃ k : Nat, k + g = n ∧ vi = .int .i64 k ∧ Hid (∃ L, Yg wr w.heap.size b size n k L) ∧ Hid (Below w.heap.size w wr))
  case atStart => exact ⟨0, by omega, rfl, HY, HB⟩
  case round =>
    clear HY HB
    obtain ⟨k, hkg, rfl, hY, hB⟩ := hrel
    by_cases hk : k < n
    · obtain ⟨L, G⟩ := hY.out
      obtain ⟨i0, hi0, hz0, hz1, hz2⟩ := info_parts info53
      have hmk1 : ∀ W : World, (Instr.makeSlice 38 (.int .i64 (size : Int)) (.int .i64 (size : Int))).run Try.prog W = .ok (.slice (some ⟨W.heap.size, 0, none⟩) size size) (W.alloc (.cells (flat (qfresh size).a).toArray 53)) := fun W => by
        have := run_make (P := Try.prog) W 38 53 i0 _ Try.underlying38 hi0 hz0 .i64 .i64 (size : Int) (size : Int) (by omega) (Int.le_refl _) (by rw [hz2]; omega) (by omega)
        simp only [Int.toNat_natCast, hz1] at this
        rw [this]
        exact congrArg (fun z => Result.ok _ (W.alloc (.cells z 53))) (zeros_S size)
      obtain ⟨i1, hj0, hy0, hy1, hy2⟩ := info_parts info9
      have hmk2 : ∀ W : World, (Instr.makeSlice 45 (.int .i64 (size : Int)) (.int .i64 (size : Int))).run Try.prog W = .ok (.slice (some ⟨W.heap.size, 0, none⟩) size size) (W.alloc (.cells (strs (qfresh size).o).toArray 9)) := fun W => by
        have := run_make (P := Try.prog) W 45 9 i1 _ Try.underlying45 hj0 hy0 .i64 .i64 (size : Int) (size : Int) (by omega) (Int.le_refl _) (by rw [hy2]; omega) (by omega)
        simp only [Int.toNat_natCast, hy1, Nat.mul_one] at this
        rw [this]
        refine congrArg (fun z => Result.ok _ (W.alloc (.cells z 9))) ?_
        rw [show (qfresh size).o = List.replicate size ⟨#[]⟩ from rfl, strs_rep]
        exact made_cells _ _
      clear hi0 hz0 hz1 hz2 hj0 hy0 hy1 hy2
      have S1 := yg_step (W := ((((wr.alloc (.cells (flat (qfresh size).a).toArray 53)).alloc (.cells (strs (qfresh size).o).toArray 9)).alloc (.cells (qc wr.heap.size (wr.heap.size + 1) size (qfresh size)).toArray 77)).alloc (.cells [.pointer (some ⟨wr.heap.size + 1 + 1, 0, none⟩)].toArray 71)).drew) G (by omega) hs1 (wr.heap.size + 1 + 1) wr.heap.size (wr.heap.size + 1) (wr.heap.size + 1 + 1 + 1)
        (((((Ch.refl _ _).alloc _).alloc _).alloc _).alloc _).drew ((((new_at _ _ _ _ rfl).alloc _).alloc _).alloc _) (((new_at _ _ _ _ (alloc_size _ _)).alloc _).alloc _) ((new_at _ _ _ _ (by rw [alloc_size, alloc_size])).alloc _) (new_at _ _ _ _ (by rw [alloc_size, alloc_size, alloc_size])) (by omega) (by omega) (by omega)
      have S2 := yg_step (W := ((((wr.alloc (.cells (strs (qfresh size).o).toArray 9)).alloc (.cells (flat (qfresh size).a).toArray 53)).alloc (.cells (qc (wr.heap.size + 1) wr.heap.size size (qfresh size)).toArray 77)).alloc (.cells [.pointer (some ⟨wr.heap.size + 1 + 1, 0, none⟩)].toArray 71)).drew) G (by omega) hs1 (wr.heap.size + 1 + 1) (wr.heap.size + 1) wr.heap.size (wr.heap.size + 1 + 1 + 1)
        (((((Ch.refl _ _).alloc _).alloc _).alloc _).alloc _).drew (((new_at _ _ _ _ (alloc_size _ _)).alloc _).alloc _) ((((new_at _ _ _ _ rfl).alloc _).alloc _).alloc _) ((new_at _ _ _ _ (by rw [alloc_size, alloc_size])).alloc _) (new_at _ _ _ _ (by rw [alloc_size, alloc_size, alloc_size])) (by omega) (by omega) (by omega)
      obtain ⟨A, c, A1, c1, V1, eP, run1, x1, f1, G1, B1⟩ := S1
      obtain ⟨A', c', A2, c2, V2, eP', run2, x2, f2, G2, B2⟩ := S2
      rw [eP] at eP'
      injection eP' with e1 e2 e3
      subst e1 e3
      have y1 : wr.cell? ⟨b, 0, none⟩ = some (.slice A k c) := by rw [← eP]; exact G.hb.cell rfl
      have hbl := G.hb.lt
      have hbl1 : b < wr.heap.size + 1 := by omega
      have hbl2 : b < wr.heap.size + 1 + 1 := by omega
      have hbl3 : b < wr.heap.size + 1 + 1 + 1 := by omega
      have HG1 := Lib.hid G1
      have HG2 := Lib.hid G2
      have HB1 := Lib.hid (hB.out.trans B1)
      have HB2 := Lib.hid (hB.out.trans B2)
      clear G G1 G2 B1 B2 hB hY eP e2
      have hq1 : ∀ ib ob : Nat, (qc ib ob size (qfresh size)).toArray = #[.slice (some ⟨ib, 0, none⟩) size size, .int .i64 0, .int .i64 0, .slice (some ⟨ob, 0, none⟩) size size, .int .i64 0, .int .i64 0, .bool true] := fun _ _ => rfl
      rw [hq1] at run1 run2
      clear hq1
      generalize (flat (qfresh size).a).toArray = Z1 at *
      generalize (strs (qfresh size).o).toArray = Z2 at *
      have R1 := Lib.hid run1
      have R2 := Lib.hid run2
      clear run1 run2
      go_wp2
      go_region_law (first
          | (refine step_app rfl (.tmp 32) (.tmp 41) 68 rfl (.slice A k c) (.slice (some ⟨wr.heap.size + 1 + 1 + 1, 0, none⟩) 1 1) (.slice A1 (k + 1) c1) _ V1 (by simp [Act.eval]) (by simp [Act.eval]) R1.out ?_)
          | (refine step_app rfl (.tmp 32) (.tmp 41) 68 rfl (.slice A k c) (.slice (some ⟨wr.heap.size + 1 + 1 + 1, 0, none⟩) 1 1) (.slice A2 (k + 1) c2) _ V2 (by simp [Act.eval]) (by simp [Act.eval]) R2.out ?_))
      all_goals
        clear y1 x1 x2 f1 f2 R1 R2 hmk1 hmk2 hbl1 hbl2 hbl3
        go_wp2
        go_roundg (n - (k + 1))
        case measure => omega
        case rel => first | exact ⟨k + 1, by omega, by go_num, Lib.hid ⟨_, HG1.out⟩, HB1⟩ | exact ⟨k + 1, by omega, by go_num, Lib.hid ⟨_, HG2.out⟩, HB2⟩
    · obtain rfl : k = n := by omega
      go_wp2
      go_ret2
      obtain ⟨L, hY⟩ := hY.out
      exact ⟨b, rfl, ⟨L, yg_done hY ⟨hn1, hn8⟩ ⟨hs1, hs8⟩⟩, hB.out⟩
end Go.Proofs.Ytbpinkelcbcpjaa.Ni
