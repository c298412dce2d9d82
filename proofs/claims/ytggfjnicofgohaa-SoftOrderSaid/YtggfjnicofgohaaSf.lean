import Derived.Test.YtggfjnicofgohaaProg
import Derived.Test.YtggfjnicofgohaaObj
import Derived.Test.YtggfjnicofgohaaWWords
import Derived.Test.YtggfjnicofgohaaWMore
import Derived.FnLit
import Derived.KernelRfl
import Derived.Outline
import Derived.Lib.Hide
import Derived.Tactics
import Derived.RegionTactic
import Derived.BigRegion
import Derived.LoopTactic
import Derived.OwnWalk
import Derived.StillTailTactics
import Derived.Deep.QuietTactic
import Derived.BigQuiet
import Derived.Deep.LoopGhost
import Derived.Deep.OwnRows
import Derived.WideLaws
import Derived.Laws.IdiomCopy
import Derived.Laws.MakeOwn
import Derived.Laws.OwnMore
import Derived.WalkSpells
namespace Go.Proofs.Ytggfjnicofgohaa.Sf
open Go.RowKit Blk Go.Proofs.YtggfjnicofgohaaW.PrintWords
set_option linter.unusedVariables false

theorem info3 : (Try.prog.info? 3).map (fun i => (i.zero, i.size, i.bytes)) = some (some (.int .i64 0), 1, 8) := by kernel_rfl
theorem info65 : (Try.prog.info? 65).map (fun i => (i.zero, i.size, i.bytes)) = some (some (.slice none 0 0), 1, 24) := by kernel_rfl
theorem info32 : (Try.prog.info? 32).map (fun i => (i.zero, i.size, i.bytes)) = some (some (.int .u64 0), 1, 8) := by kernel_rfl
theorem info67 : (Try.prog.info? 67).map (fun i => (i.zero, i.size, i.bytes)) = some (some (.agg #[.int .u64 0, .int .u32 0]), 2, 16) := by kernel_rfl

/-- The struct's cells. -/
def sc (most : Int) (R L O : Value) (cnt cor : List Int) : List Value :=
  .int .i64 most :: R :: L :: O :: (cnt.map (Value.int .i64) ++ cor.map (Value.int .i64))
def z256 : List Int := List.replicate 256 0
theorem z256_len : z256.length = 256 := List.length_replicate ..

section
variable {most : Int} {R L O : Value} {cnt cor : List Int}
theorem sc_cnt (hc : cnt.length = 256) (i : Nat) (hi : i < 256) : (sc most R L O cnt cor)[4 + i]? = some (.int .i64 (cnt.getD i 0)) := by
  rw [Nat.add_comm]
  show ((cnt.map (Value.int .i64) ++ cor.map (Value.int .i64)))[i]? = _
  rw [List.getElem?_append_left (by simpa [hc] using hi), List.getElem?_map, List.getD_eq_getElem?_getD, List.getElem?_eq_getElem (by omega)]
  rfl
theorem sc_cor (hc : cnt.length = 256) (hk : cor.length = 256) (i : Nat) (hi : i < 256) : (sc most R L O cnt cor)[260 + i]? = some (.int .i64 (cor.getD i 0)) := by
  rw [show 260 + i = (256 + i) + 4 by omega]
  show ((cnt.map (Value.int .i64) ++ cor.map (Value.int .i64)))[256 + i]? = _
  rw [List.getElem?_append_right (by simp [hc]), List.getElem?_map, List.getD_eq_getElem?_getD]
  simp only [List.length_map, hc, Nat.add_sub_cancel_left]
  rw [List.getElem?_eq_getElem (by omega)]
  rfl
theorem sc_set_cnt (hc : cnt.length = 256) (i : Nat) (hi : i < 256) (v : Int) : (sc most R L O cnt cor).set (4 + i) (.int .i64 v) = sc most R L O (cnt.set i v) cor := by
  rw [Nat.add_comm]
  show _ :: _ :: _ :: _ :: ((cnt.map (Value.int .i64) ++ cor.map (Value.int .i64))).set i _ = _
  rw [List.set_append_left _ _ (by simpa [hc] using hi), ← List.map_set]
  rfl
theorem sc_set_cor (hc : cnt.length = 256) (i : Nat) (hi : i < 256) (v : Int) : (sc most R L O cnt cor).set (260 + i) (.int .i64 v) = sc most R L O cnt (cor.set i v) := by
  rw [show 260 + i = (256 + i) + 4 by omega]
  show _ :: _ :: _ :: _ :: ((cnt.map (Value.int .i64) ++ cor.map (Value.int .i64))).set (256 + i) _ = _
  rw [List.set_append_right _ _ (by simp [hc])]
  simp only [List.length_map, hc, Nat.add_sub_cancel_left]
  rw [← List.map_set]
  rfl
end

/-- The struct as it is built. -/
def agg0 (most : Int) (R L : Value) : Array Value := (sc most R L (.slice none 0 0) z256 z256).toArray
theorem build0 (most : Int) (A B : Option Addr) (n c n' c' : Nat) (W : World) : (Instr.build 62 #[(0, .int .i64 most), (1, .slice A n c), (2, .slice B n' c')]).run Try.prog W = .ok (.agg (agg0 most (.slice A n c) (.slice B n' c'))) W := by
  kernel_rfl
/-- The struct's zero. -/
def Z62 : Array Value := (sc 0 (.slice none 0 0) (.slice none 0 0) (.slice none 0 0) z256 z256).toArray
theorem zero62 (W : World) : (zeroValue 62).run Try.prog W = .ok (.agg Z62) W := by kernel_rfl
theorem Z62_ne : (Z62 = #[]) = False := by
  simp [Z62, sc]
theorem Z62_size : Z62.size = 516 := by kernel_rfl
theorem built (most : Int) (R L : Value) : ((Z62.setIfInBounds 0 (.int .i64 most)).setIfInBounds 1 R).setIfInBounds 2 L = (sc most R L (.slice none 0 0) z256 z256).toArray := by
  apply Array.ext'
  rw [Array.toList_setIfInBounds, Array.toList_setIfInBounds, Array.toList_setIfInBounds]
  rfl

structure St where
  n : Nat
  most : Nat
  rows : List (List (Int × Int))
  lost : List Int
  on : List Int
  cnt : List Int
  cor : List Int

def flat (row : List (Int × Int)) : List Value := row.flatMap fun p => [.int .u64 p.1, .int .u32 p.2]
theorem flat_len (row : List (Int × Int)) : (flat row).length = row.length * 2 := by
  induction row with
  | nil => rfl
  | cons p r ih => simp [flat] at ih ⊢; omega
theorem flat_snoc (row : List (Int × Int)) (p : Int × Int) : flat (row ++ [p]) = flat row ++ [.int .u64 p.1, .int .u32 p.2] := by simp [flat]
theorem flat_cons (p : Int × Int) (row : List (Int × Int)) : flat (p :: row) = .int .u64 p.1 :: .int .u32 p.2 :: flat row := rfl

/-- The object lies so: its struct at b, the rows at r, what was lost at l. -/
structure At (w : World) (base b r l : Nat) (rv : List Value) (O : Value) (s : St) : Prop where
  hb : Has w b (sc s.most (.slice (some ⟨r, 0, none⟩) s.n s.n) (.slice (some ⟨l, 0, none⟩) s.n s.n) O s.cnt s.cor) 62
  hr : Has w r rv 65
  hl : Has w l (s.lost.map (Value.int .u64)) 32
  ho : QRow w base 3 1 O s.on.length (s.on.map (Value.int .i64))
  rvl : rv.length = s.n
  rowl : s.rows.length = s.n
  lostl : s.lost.length = s.n
  q : ∀ (i : Nat) (v : Value) (row : List (Int × Int)), rv[i]? = some v → s.rows[i]? = some row → QRow w base 67 2 v row.length (flat row)
  ne : ∀ (i j : Nat) (v v' : Value), i ≠ j → rv[i]? = some v → rv[j]? = some v' → NeRow v v'
  gb : base ≤ b
  gr : base ≤ r
  gl : base ≤ l
  cl : s.cnt.length = 256
  kl : s.cor.length = 256

theorem has_ne {w : World} {a b : Nat} {c d : List Value} {S T : TypeId} (h : Has w a c S) (k : Has w b d T) (hT : S ≠ T) : a ≠ b := by
  rintro rfl
  unfold Has at h k
  rw [h] at k
  simp only [Option.some.injEq, Obj.cells.injEq] at k
  exact hT k.2.1
/-- Blocks of the kinds that T tells are as they were. -/
def Keeps (T : TypeId → Prop) (w w' : World) : Prop := ∀ (k : Nat) (c : Array Value) (t : TypeId), T t → w.heap[k]? = some (.cells c t (0, 0)) → w'.heap[k]? = w.heap[k]?
theorem Keeps.has {T : TypeId → Prop} {w w' : World} (h : Keeps T w w') {b : Nat} {c : List Value} {t : TypeId} (hT : T t) (k : Has w b c t) : Has w' b c t := (h b _ t hT k).trans k
theorem Keeps.q {T : TypeId → Prop} {w w' : World} (h : Keeps T w w') {base n size : Nat} {e : TypeId} {v : Value} {xs : List Value} (hT : T e) (k : QRow w base e size v n xs) : QRow w' base e size v n xs :=
  q_move k fun j hj => by obtain ⟨_, cells, hc⟩ := q_typed k j hj; exact h j cells e hT hc
theorem Keeps.trans {T : TypeId → Prop} {w w1 w2 : World} (h : Keeps T w w1) (k : Keeps T w1 w2) : Keeps T w w2 := fun j c t hT hc => by
  have h1 := h j c t hT hc
  exact (k j c t hT (h1.trans hc)).trans h1
theorem Keeps.refl (T : TypeId → Prop) (w : World) : Keeps T w w := fun _ _ _ _ _ => rfl
theorem Keeps.mono {T U : TypeId → Prop} {w w' : World} (h : Keeps T w w') (hu : ∀ t, U t → T t) : Keeps U w w' := fun k c t hT hc => h k c t (hu t hT) hc
theorem Keeps.alloc {T : TypeId → Prop} {w w' : World} (h : Keeps T w w') (o : Obj) : Keeps T w (w'.alloc o) := h.trans fun k c t _ hc => by
  have hk : k < w'.heap.size := (Array.getElem?_eq_some_iff.1 hc).1
  show (w'.heap.push o)[k]? = _
  rw [Array.getElem?_push]; split <;> first | omega | rfl
theorem Keeps.drew {T : TypeId → Prop} {w w' : World} (h : Keeps T w w') : Keeps T w w'.drew := h
theorem Keeps.drewN {T : TypeId → Prop} {w w' : World} (h : Keeps T w w') (n : Nat) : Keeps T w (w'.drewN n) := h
theorem Keeps.set {T : TypeId → Prop} {w w' : World} (h : Keeps T w w') (a : Addr) (v : Value) {c : List Value} {t : TypeId} (hb : Has w' a.block c t) (ht : ¬ T t) : Keeps T w (w'.setCell a v) := h.trans fun k d u hu hd => by
  refine heap_set _ _ _ _ fun e => ?_
  subst e
  unfold Has at hb
  rw [hb] at hd
  simp only [Option.some.injEq, Obj.cells.injEq] at hd
  exact ht (hd.2.1 ▸ hu)
theorem Keeps.grown {T : TypeId → Prop} {w w' w1 : World} (h : Keeps T w w') {row : Option Nat} (hg : w'.grownBy w1 row) (hr : ∀ k, row = some k → ∃ c t, w'.heap[k]? = some (.cells c t (0, 0)) ∧ ¬ T t) : Keeps T w w1 := h.trans fun k c t hT hc => by
  have hk : k < w'.heap.size := (Array.getElem?_eq_some_iff.1 hc).1
  refine hg.block k hk fun e => ?_
  obtain ⟨c', t', h1, h2⟩ := hr k e.symm
  rw [h1] at hc
  simp only [Option.some.injEq, Obj.cells.injEq] at hc
  exact h2 (hc.2.1 ▸ hT)
theorem Keeps.ch {T : TypeId → Prop} {B : Nat → Prop} {w w' w1 : World} (h : Keeps T w w') (hc : Ch B w' w1) (hr : ∀ k c t, B k → w'.heap[k]? = some (.cells c t (0, 0)) → ¬ T t) : Keeps T w w1 := h.trans fun k c t hT hd => by
  have hk : k < w'.heap.size := (Array.getElem?_eq_some_iff.1 hd).1
  exact hc.block k hk fun e => hr k c t e hd hT

section
variable {P : Program} {ops : Array Oper} {rest : List Oper} {o : Oper} {a : Act} {Q' : Exit → Act → World → Prop}
/-- An append whose run is known. -/
theorem wpList_app (hgd : o.guard = none) (s x : Operand) (t : TypeId) (ho : o.op = .call { callee := .builtin .append, args := #[s, x], argTypes := #[t, t] })
    (v u v' : Value) (w w' : World) (hs : a.eval s = v) (hx : a.eval x = u) (hr : (Builtin.append_ #[t, t] o.type #[v, u]).run P w = .ok v' w')
    (h : wpList P ops Q' rest (a.put o.dst v') w') : wpList P ops Q' (o :: rest) a w := by
  refine wpList_plain hgd fun K hK => ?_
  unfold Oper.wp execOp
  simp only [ho, resolve, invoke, builtin, Sem.run_bind, Sem.run_pure, Result.andThen_ok, List.map_toArray, List.map_cons, List.map_nil, hs, hx, hr]
  exact hK _ _ h
/-- The same in a region that draws its order. -/
theorem step_app {Kc : Act → World → Prop} (hw : Region.wanted o (yielded ops a.tmps) = true) (s x : Operand) (t : TypeId) (ho : o.op = .call { callee := .builtin .append, args := #[s, x], argTypes := #[t, t] })
    (v u v' : Value) (w w' : World) (hs : a.eval s = v) (hx : a.eval x = u) (hr : (Builtin.append_ #[t, t] o.type #[v, u]).run P w = .ok v' w')
    (h : Kc (a.put o.dst v') w') : if Region.wanted o (yielded ops a.tmps) = true then Oper.wp P o a w Kc Q' else Kc (a.put o.dst undef) w := by
  rw [if_pos hw]
  unfold Oper.wp execOp
  simp only [ho, resolve, invoke, builtin, Sem.run_bind, Sem.run_pure, Result.andThen_ok, List.map_toArray, List.map_cons, List.map_nil, hs, hx, hr]
  exact h
end
end Go.Proofs.Ytggfjnicofgohaa.Sf
