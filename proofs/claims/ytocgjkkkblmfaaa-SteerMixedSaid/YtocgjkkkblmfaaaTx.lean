import Derived.Test.YtocgjkkkblmfaaaSt
import Derived.KernelRfl
import Derived.Laws.MakeOwn
import Derived.Laws.OwnMore
import Derived.Laws.BytesArg
namespace Go.Proofs.Ytocgjkkkblmfaaa.St
open Go.RowKit Blk
set_option linter.unusedVariables false

theorem info5 : (Try.prog.info? 5).map (fun i => (i.zero, i.size, i.bytes)) = some (some (.int .u8 0), 1, 1) := by kernel_rfl
theorem below_grown {n : Nat} {w W w1 : World} {row : Option Nat} (h : Below n w W) (hg : W.grownBy w1 row) (hr : ∀ k, row = some k → n ≤ k) (hn : n ≤ W.heap.size) : Below n w w1 :=
  ⟨hg.os.trans h.os, hg.tape.trans h.tape, hg.output.trans h.output, Nat.le_trans h.size hg.size, fun i hi => by
    rw [hg.block i (Nat.lt_of_lt_of_le hi hn) (fun e => by have := hr i e.symm; omega)]; exact h.block i hi⟩
theorem grown_has {W w1 : World} {row : Option Nat} (hg : W.grownBy w1 row) {b : Nat} {c : List Value} {T : TypeId} (h : Has W b c T) (hr : ∀ k, row = some k → b < k) : Has w1 b c T := by
  unfold Has
  rw [hg.block b h.lt (fun e => by have := hr b e.symm; omega)]
  exact h
theorem own_ge {w : World} {base : Nat} {e : TypeId} {size n : Nat} {v : Value} {xs : List Value} (h : w.ownsRow base e size v n xs) (k : Nat) (hk : v.ownBlock = some k) : base ≤ k := (h.lt k hk).1
theorem lit_cells (w : World) (cs : List Value) (T : TypeId) (j : Nat) (u : Value) (h : cs[j]? = some u) : (w.alloc (.cells cs.toArray T)).cell? ((⟨w.heap.size, 0, none⟩ : Addr).add j) = some u := by
  have e : (⟨w.heap.size, 0, none⟩ : Addr).add j = ⟨w.heap.size, j, none⟩ := by unfold Addr.add; split <;> simp_all
  rw [e]
  exact (Has.new w cs T).cell h
theorem lit_cells2 (w : World) (cs : List Value) (T : TypeId) (n : Nat) (hn : n = w.heap.size) (j : Nat) (u : Value) (h : cs[j]? = some u) : (w.alloc (.cells cs.toArray T)).cell? ((⟨n, 0, none⟩ : Addr).add j) = some u := by
  subst hn; exact lit_cells w cs T j u h
theorem own_drew {w : World} {base : Nat} {e : TypeId} {size n : Nat} {v : Value} {xs : List Value} (h : w.ownsRow base e size v n xs) : w.drew.ownsRow base e size v n xs := h
theorem one_all (l : List Int) : ∀ u ∈ l.map (Value.int .u8), u.oneCell' = true := by
  intro u hu
  obtain ⟨x, _, rfl⟩ := List.mem_map.1 hu
  rfl

/-- A pair's bytes. -/
def pairB (ip1 p1 ip2 p2 : Int) : List Int := [ip1 / 16777216, ip1 / 65536 % 256, ip1 / 256 % 256, ip1 % 256, ip2 / 16777216, ip2 / 65536 % 256, ip2 / 256 % 256, ip2 % 256, p1 / 256, p1 % 256, p2 / 256, p2 % 256]

set_option maxHeartbeats 8000000 in
set_option maxRecDepth 1000000 in
theorem text_k (ip1 p1 ip2 p2 : Int) (w : World) (h1 : 0 ≤ ip1 ∧ ip1 ≤ 4294967295) (h2 : 0 ≤ ip2 ∧ ip2 ≤ 4294967295) (h3 : 0 ≤ p1 ∧ p1 ≤ 65535) (h4 : 0 ≤ p2 ∧ p2 ≤ 65535) :
    Calls Try.prog 14 #[.agg #[.int .u32 ip1, .int .u16 p1, .int .u32 ip2, .int .u16 p2]] w fun e w' => e = .returned (.string (strOfNums (pairB ip1 p1 ip2 p2))) ∧ Below w.heap.size w w' := by
  obtain ⟨i0, hi, hz0, hz1, hz2⟩ := info_parts info5
  have x0 : ∀ W, (Instr.index 48 (.agg #[.int .u32 ip1, .int .u16 p1, .int .u32 ip2, .int .u16 p2]) (.int .i64 0)).run Try.prog W = .ok (.agg #[.int .u32 ip1, .int .u16 p1]) W := fun _ => by kernel_rfl
  have x1 : ∀ W, (Instr.index 48 (.agg #[.int .u32 ip1, .int .u16 p1, .int .u32 ip2, .int .u16 p2]) (.int .i64 1)).run Try.prog W = .ok (.agg #[.int .u32 ip2, .int .u16 p2]) W := fun _ => by kernel_rfl
  have hP0 : Has (w.alloc (.cells #[.int .u32 ip1, .int .u16 p1, .int .u32 ip2, .int .u16 p2] 42)) w.heap.size [.int .u32 ip1, .int .u16 p1, .int .u32 ip2, .int .u16 p2] 42 := Has.new w [.int .u32 ip1, .int .u16 p1, .int .u32 ip2, .int .u16 p2] 42
  have HP0 := Lib.hid hP0
  clear hP0
  go_enter Try.func14, Try.ntmps14
  go_wp2
  refine wp_loop_rounds 3 ?_
  rw [rounds_succ]
  go_wp2_with (at_builtin; refine wpList_append_own _ rfl _ _ 22 rfl (w.heap.size + 1) 5 i0 (.int .u8 0) 1 1 Try.underlying22 hi hz0 hz1 hz2 rfl (by decide) _ 0 [] rfl (World.ownsRow_nil _ _ _ _) _ 4 4 [.int .u8 (ip1 / 16777216), .int .u8 (ip1 / 65536 % 256), .int .u8 (ip1 / 256 % 256), .int .u8 (ip1 % 256)] rfl rfl ?c1a ?c1b ?c1c ?c1d ?c1e ?_; rotate_right; intro v1 w1 ho1 hg1 _)
  case c1a => intro j u hu; exact lit_cells2 _ [.int .u8 (ip1 / 16777216), .int .u8 (ip1 / 65536 % 256), .int .u8 (ip1 / 256 % 256), .int .u8 (ip1 % 256)] 5 _ (by simp) j u hu
  case c1b => exact one_all [ip1 / 16777216, ip1 / 65536 % 256, ip1 / 256 % 256, ip1 % 256]
  case c1c => decide
  case c1d => decide
  case c1e => simp
  have hB1 : Below w.heap.size w w1 := below_grown (by repeat (first | exact Below.refl _ _ | (refine Below.alloc ?_ (by first | omega | (simp; done) | (simp; omega)) _) | apply Below.drew)) hg1 (fun k hk => by cases hk) (by first | omega | (simp; done) | (simp; omega))
  have hP1 : Has w1 w.heap.size [.int .u32 ip1, .int .u16 p1, .int .u32 ip2, .int .u16 p2] 42 := grown_has hg1 (by repeat (first | exact HP0.out | apply Has.alloc | apply Has.drew)) (fun k hk => by cases hk)
  have HP1 := Lib.hid hP1
  have HO1 := Lib.hid ho1
  have hz1' : w.heap.size + 1 ≤ w1.heap.size := hP1.lt
  clear hP1 ho1 hg1
  rw [rounds_succ]
  go_wp2_with (at_builtin; refine wpList_append_own _ rfl _ _ 22 rfl (w.heap.size + 1) 5 i0 (.int .u8 0) 1 1 Try.underlying22 hi hz0 hz1 hz2 rfl (by decide) _ 4 [.int .u8 (ip1 / 16777216), .int .u8 (ip1 / 65536 % 256), .int .u8 (ip1 / 256 % 256), .int .u8 (ip1 % 256)] rfl (by repeat (first | exact HO1.out | apply World.ownsRow.alloc | apply own_drew)) _ 4 4 [.int .u8 (ip2 / 16777216), .int .u8 (ip2 / 65536 % 256), .int .u8 (ip2 / 256 % 256), .int .u8 (ip2 % 256)] rfl rfl ?c2a ?c2b ?c2c ?c2d ?c2e ?_; rotate_right; intro v2 w2 ho2 hg2 _)
  case c2a => intro j u hu; exact lit_cells2 _ [.int .u8 (ip2 / 16777216), .int .u8 (ip2 / 65536 % 256), .int .u8 (ip2 / 256 % 256), .int .u8 (ip2 % 256)] 5 _ (by simp) j u hu
  case c2b => exact one_all [ip2 / 16777216, ip2 / 65536 % 256, ip2 / 256 % 256, ip2 % 256]
  case c2c => decide
  case c2d => decide
  case c2e => first | (simp; done) | (simp; omega)
  have hB2 : Below w.heap.size w w2 := below_grown (by repeat (first | exact hB1 | (refine Below.alloc ?_ (by first | omega | (simp; done) | (simp; omega)) _) | apply Below.drew)) hg2 (fun k hk => by have := own_ge HO1.out k hk; omega) (by first | omega | (simp; done) | (simp; omega))
  have hP2 : Has w2 w.heap.size [.int .u32 ip1, .int .u16 p1, .int .u32 ip2, .int .u16 p2] 42 := grown_has hg2 (by repeat (first | exact HP1.out | apply Has.alloc | apply Has.drew)) (fun k hk => by have := own_ge HO1.out k hk; omega)
  have HP2 := Lib.hid hP2
  have HO2 := Lib.hid ho2
  have hz2' : w.heap.size + 1 ≤ w2.heap.size := hP2.lt
  clear hP2 ho2 hg2
  rw [rounds_succ]
  have q0 := HP2.out.cell (i := 0) rfl
  have q1 := HP2.out.cell (i := 1) rfl
  have q2 := HP2.out.cell (i := 2) rfl
  have q3 := HP2.out.cell (i := 3) rfl
  go_wp2
  clear q0 q1 q2 q3
  refine wp_loop_rounds 3 ?_
  rw [rounds_succ]
  go_wp2_with (at_builtin; refine wpList_append_own _ rfl _ _ 22 rfl (w.heap.size + 1) 5 i0 (.int .u8 0) 1 1 Try.underlying22 hi hz0 hz1 hz2 rfl (by decide) _ 8 [.int .u8 (ip1 / 16777216), .int .u8 (ip1 / 65536 % 256), .int .u8 (ip1 / 256 % 256), .int .u8 (ip1 % 256), .int .u8 (ip2 / 16777216), .int .u8 (ip2 / 65536 % 256), .int .u8 (ip2 / 256 % 256), .int .u8 (ip2 % 256)] rfl (by repeat (first | exact HO2.out | apply World.ownsRow.alloc | apply own_drew)) _ 2 2 [.int .u8 (p1 / 256), .int .u8 (p1 % 256)] rfl rfl ?c3a ?c3b ?c3c ?c3d ?c3e ?_; rotate_right; intro v3 w3 ho3 hg3 _)
  case c3a => intro j u hu; exact lit_cells2 _ [.int .u8 (p1 / 256), .int .u8 (p1 % 256)] 5 _ (by simp) j u hu
  case c3b => exact one_all [p1 / 256, p1 % 256]
  case c3c => decide
  case c3d => decide
  case c3e => first | (simp; done) | (simp; omega)
  have hB3 : Below w.heap.size w w3 := below_grown (by repeat (first | exact hB2 | (refine Below.alloc ?_ (by first | omega | (simp; done) | (simp; omega)) _) | apply Below.drew)) hg3 (fun k hk => by have := own_ge HO2.out k hk; omega) (by first | omega | (simp; done) | (simp; omega))
  have hP3 : Has w3 w.heap.size [.int .u32 ip1, .int .u16 p1, .int .u32 ip2, .int .u16 p2] 42 := grown_has hg3 (by repeat (first | exact HP2.out | apply Has.alloc | apply Has.drew)) (fun k hk => by have := own_ge HO2.out k hk; omega)
  have HP3 := Lib.hid hP3
  have HO3 := Lib.hid ho3
  have hz3' : w.heap.size + 1 ≤ w3.heap.size := hP3.lt
  clear hP3 ho3 hg3
  rw [rounds_succ]
  go_wp2_with (at_builtin; refine wpList_append_own _ rfl _ _ 22 rfl (w.heap.size + 1) 5 i0 (.int .u8 0) 1 1 Try.underlying22 hi hz0 hz1 hz2 rfl (by decide) _ 10 [.int .u8 (ip1 / 16777216), .int .u8 (ip1 / 65536 % 256), .int .u8 (ip1 / 256 % 256), .int .u8 (ip1 % 256), .int .u8 (ip2 / 16777216), .int .u8 (ip2 / 65536 % 256), .int .u8 (ip2 / 256 % 256), .int .u8 (ip2 % 256), .int .u8 (p1 / 256), .int .u8 (p1 % 256)] rfl (by repeat (first | exact HO3.out | apply World.ownsRow.alloc | apply own_drew)) _ 2 2 [.int .u8 (p2 / 256), .int .u8 (p2 % 256)] rfl rfl ?c4a ?c4b ?c4c ?c4d ?c4e ?_; rotate_right; intro v4 w4 ho4 hg4 _)
  case c4a => intro j u hu; exact lit_cells2 _ [.int .u8 (p2 / 256), .int .u8 (p2 % 256)] 5 _ (by simp) j u hu
  case c4b => exact one_all [p2 / 256, p2 % 256]
  case c4c => decide
  case c4d => decide
  case c4e => first | (simp; done) | (simp; omega)
  have hB4 : Below w.heap.size w w4 := below_grown (by repeat (first | exact hB3 | (refine Below.alloc ?_ (by first | omega | (simp; done) | (simp; omega)) _) | apply Below.drew)) hg4 (fun k hk => by have := own_ge HO3.out k hk; omega) (by first | omega | (simp; done) | (simp; omega))
  have hP4 : Has w4 w.heap.size [.int .u32 ip1, .int .u16 p1, .int .u32 ip2, .int .u16 p2] 42 := grown_has hg4 (by repeat (first | exact HP3.out | apply Has.alloc | apply Has.drew)) (fun k hk => by have := own_ge HO3.out k hk; omega)
  have HP4 := Lib.hid hP4
  have HO4 := Lib.hid ho4
  have hz4' : w.heap.size + 1 ≤ w4.heap.size := hP4.lt
  clear hP4 ho4 hg4
  rw [rounds_succ]
  go_wp2
  have ho := HO4.out
  rcases ho.2 with ⟨_, h⟩ | ⟨g, cap, cur, rfl, hb, hh, _⟩
  · exact absurd h (by decide)
  · have hcell : ∀ i, i < 12 → w4.cell? ⟨g, 0 + i, none⟩ = some (.int .u8 ((pairB ip1 p1 ip2 p2).getD i 0)) := by
      intro i hi
      rw [Nat.zero_add, ho.cellAt i (by omega)]
      show ((pairB ip1 p1 ip2 p2).map (Value.int .u8))[i]? = _
      have hl : i < (pairB ip1 p1 ip2 p2).length := hi
      rw [List.getElem?_map, List.getElem?_eq_getElem hl, List.getD_eq_getElem?_getD, List.getElem?_eq_getElem hl]
      rfl
    rw [run_convert_bytes_arg _ 22 5 Try.underlying22 Try.underlying5 g 0 12 cap (pairB ip1 p1 ip2 p2) rfl hcell 9 Try.underlying9]
    go_wp2
    go_ret
    exact ⟨rfl, hB4⟩
end Go.Proofs.Ytocgjkkkblmfaaa.St
