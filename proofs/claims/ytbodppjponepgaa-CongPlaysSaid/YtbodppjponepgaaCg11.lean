import Derived.Test.YtbodppjponepgaaCg4
import Derived.Test.YtbodppjponepgaaCgr2
import Derived.Test.YtbodppjponepgaaOp
namespace Go.Proofs.Ytbodppjponepgaa.Cg
open Go.RowKit Blk
set_option linter.unusedVariables false

def clc (c : Op.Cl) : List Value := [.int .u8 c.d, .int .u32 c.una, .int .u32 c.next, .int .i64 c.n, .int .i64 c.f]

theorem has_ne {w : World} {a b : Nat} {c d : List Value} {S T : TypeId} (h : Has w a c S) (k : Has w b d T) (hT : S ≠ T) : a ≠ b := by
  rintro rfl
  unfold Has at h k
  rw [h] at k
  simp only [Option.some.injEq, Obj.cells.injEq] at k
  exact hT k.2.1

theorem At.other {w w' : World} {b bx : Nat} {s : St} {c : List Value} {T : TypeId} (h : At w b s) (k : Ch (· = bx) w w') (hx : Has w bx c T) (h1 : T ≠ 47) (h2 : T ≠ 23) : At w' b s := by
  obtain ⟨mp, hh, hm⟩ := h
  refine ⟨mp, hh.ch k (has_ne hh hx (Ne.symm h1)), ?_⟩
  rcases hm with e | ⟨x, kk, e1, e2, e3, e4⟩
  · exact .inl e
  · exact .inr ⟨x, kk, e1, e2, e3, e4.ch k (has_ne e4 hx (Ne.symm h2))⟩
theorem At.alloc {w : World} {b : Nat} {s : St} (h : At w b s) (o : Obj) : At (w.alloc o) b s := by
  obtain ⟨mp, h1, h2⟩ := h
  refine ⟨mp, h1.alloc o, ?_⟩
  rcases h2 with h | ⟨x, k, e1, e2, e3, e4⟩
  · exact .inl h
  · exact .inr ⟨x, k, e1, e2, e3, e4.alloc o⟩
theorem At.has {w : World} {b : Nat} {s : St} (h : At w b s) : ∃ c, Has w b c 47 := by obtain ⟨mp, h1, _⟩ := h; exact ⟨_, h1⟩

/-- The program's state, and the document's. -/
structure Duo (w0 : World) (b : Nat) (s : St) (bx : Nat) (sx : St) (w : World) : Prop where
  is : At w b s
  rx : Has w bx sx.rc 42
  below : Below w0.heap.size w0 w
  gb : w0.heap.size ≤ b
  gx : w0.heap.size ≤ bx
/-- And a call's numbers. -/
structure Trio (w0 : World) (b : Nat) (s : St) (bx : Nat) (sx : St) (k : Nat) (c : Op.Cl) (w : World) : Prop where
  duo : Duo w0 b s bx sx w
  y : Has w k (clc c) 38

theorem Duo.c {w0 w w' : World} {b bx : Nat} {s s' sx : St} (h : Duo w0 b s bx sx w) (h1 : At w' b s') (h2 : Ch (· = b) w w') : Duo w0 b s' bx sx w' := by
  obtain ⟨c, hb⟩ := h.is.has
  exact ⟨h1, h.rx.ch h2 (has_ne h.rx hb (by decide)), h.below.trans (h2.below w0.heap.size h.below.size (fun k hk e => by have := h.gb; omega)), h.gb, h.gx⟩
theorem Duo.x {w0 w w' : World} {b bx : Nat} {s sx sx' : St} (h : Duo w0 b s bx sx w) (h1 : Has w' bx sx'.rc 42) (h2 : Ch (· = bx) w w') : Duo w0 b s bx sx' w' :=
  ⟨h.is.other h2 h.rx (by decide) (by decide), h1, h.below.trans (h2.below w0.heap.size h.below.size (fun k hk e => by have := h.gx; omega)), h.gb, h.gx⟩
theorem Trio.c {w0 w w' : World} {b bx k : Nat} {s s' sx : St} {y : Op.Cl} (h : Trio w0 b s bx sx k y w) (h1 : At w' b s') (h2 : Ch (· = b) w w') : Trio w0 b s' bx sx k y w' := by
  obtain ⟨c, hb⟩ := h.duo.is.has
  exact ⟨h.duo.c h1 h2, h.y.ch h2 (has_ne h.y hb (by decide))⟩
theorem Trio.x {w0 w w' : World} {b bx k : Nat} {s sx sx' : St} {y : Op.Cl} (h : Trio w0 b s bx sx k y w) (h1 : Has w' bx sx'.rc 42) (h2 : Ch (· = bx) w w') : Trio w0 b s bx sx' k y w' :=
  ⟨h.duo.x h1 h2, h.y.ch h2 (has_ne h.y h.duo.rx (by decide))⟩
theorem Duo.call {w0 w : World} {b bx : Nat} {s sx : St} (h : Duo w0 b s bx sx w) (y : Op.Cl) : Trio w0 b s bx sx w.heap.size y (w.alloc (.cells (clc y).toArray 38)) :=
  ⟨⟨h.is.alloc _, h.rx.alloc _, h.below.alloc h.below.size _, h.gb, h.gx⟩, Has.new w (clc y) 38⟩
theorem Trio.drew {w0 w : World} {b bx k : Nat} {s sx : St} {y : Op.Cl} (h : Trio w0 b s bx sx k y w) : Trio w0 b s bx sx k y w.drew :=
  ⟨⟨h.duo.is, h.duo.rx, h.duo.below.drew, h.duo.gb, h.duo.gx⟩, h.y⟩

section
variable {w0 w : World} {b bx k : Nat} {s sx : St} {y : Op.Cl}
theorem tacked (una n : Int) (h : Trio w0 b s bx sx k y w) {K : Int} (ho : s.Ok K) (hK : K ≤ 1000) (hn : n ≤ 9223372036854775807) :
    Calls Try.prog 11 #[.pointer (some ⟨b, 0, none⟩), .int .u32 una, .int .i64 n] w fun e w' => e = .returned (.bool (s.acked una n).2) ∧ Trio w0 b (s.acked una n).1 bx sx k y w' := by
  refine (acked_k s b una n w h.duo.is ho hK hn).mono ?_
  rintro e w' ⟨rfl, h1, h2⟩
  exact ⟨rfl, h.c h1 h2⟩
theorem txacked (una n : Int) (h : Trio w0 b s bx sx k y w) {K : Int} (ho : sx.Ok K) (hK : K ≤ 1000) (hn : n ≤ 9223372036854775807) (hu : 0 ≤ una ∧ una ≤ 4294967295) :
    Calls Try.prog 14 #[.pointer (some ⟨bx, 0, none⟩), .int .u32 una, .int .i64 n] w fun e w' => e = .returned (.bool (sx.acked una n).2) ∧ Trio w0 b s bx (sx.acked una n).1 k y w' := by
  refine (racked_k sx bx una n w h.duo.rx ho hK hn hu).mono ?_
  rintro e w' ⟨rfl, h1, h2⟩
  exact ⟨rfl, h.x h1 h2⟩
theorem ttwice (una next f : Int) (h : Trio w0 b s bx sx k y w) {K : Int} (ho : s.Ok K) (hK : K ≤ 1000) (hf : -9223372036854775808 ≤ f ∧ f ≤ 9223372036854775807) :
    Calls Try.prog 10 #[.pointer (some ⟨b, 0, none⟩), .int .u32 una, .int .u32 next, .int .i64 f] w fun e w' => e = .returned (.bool (s.twice una next f).2) ∧ Trio w0 b (s.twice una next f).1 bx sx k y w' := by
  refine (twice_k s b una next f w h.duo.is ho hK hf).mono ?_
  rintro e w' ⟨rfl, h1, h2⟩
  exact ⟨rfl, h.c h1 h2⟩
theorem txtwice (una next f : Int) (h : Trio w0 b s bx sx k y w) {K : Int} (ho : sx.Ok K) (hK : K ≤ 1000) (hu : 0 ≤ una ∧ una ≤ 4294967295) (hf : -9223372036854775808 ≤ f ∧ f ≤ 9223372036854775807) :
    Calls Try.prog 15 #[.pointer (some ⟨bx, 0, none⟩), .int .u32 una, .int .u32 next, .int .i64 f] w fun e w' => e = .returned (.bool (sx.twice una next f).2) ∧ Trio w0 b s bx (sx.twice una next f).1 k y w' := by
  refine (rtwice_k sx bx una next f w h.duo.rx ho hK hu hf).mono ?_
  rintro e w' ⟨rfl, h1, h2⟩
  exact ⟨rfl, h.x h1 h2⟩
theorem tlate (next f : Int) (h : Trio w0 b s bx sx k y w) {K : Int} (ho : s.Ok K) (hf : -9223372036854775808 ≤ f ∧ f ≤ 9223372036854775807) :
    Calls Try.prog 16 #[.pointer (some ⟨b, 0, none⟩), .int .u32 next, .int .i64 f] w fun e w' => e = .returned (.tuple #[]) ∧ Trio w0 b (s.late next f) bx sx k y w' := by
  refine (late_k s b next f w h.duo.is ho hf).mono ?_
  rintro e w' ⟨rfl, h1, h2⟩
  exact ⟨rfl, h.c h1 h2⟩
theorem txlate (next f : Int) (h : Trio w0 b s bx sx k y w) {K : Int} (ho : sx.Ok K) (hf : -9223372036854775808 ≤ f ∧ f ≤ 9223372036854775807) :
    Calls Try.prog 17 #[.pointer (some ⟨bx, 0, none⟩), .int .u32 next, .int .i64 f] w fun e w' => e = .returned (.tuple #[]) ∧ Trio w0 b s bx (sx.late next f) k y w' := by
  refine (rlate_k sx bx next f w h.duo.rx ho hf).mono ?_
  rintro e w' ⟨rfl, h1, h2⟩
  exact ⟨rfl, h.x h1 h2⟩
theorem twindow (h : Trio w0 b s bx sx k y w) : Calls Try.prog 18 #[.pointer (some ⟨b, 0, none⟩)] w fun e w' => e = .returned (.int .i64 s.window) ∧ w = w' := by
  obtain ⟨mp, hh, _⟩ := h.duo.is; exact window_c s b mp w hh
theorem tedge (h : Trio w0 b s bx sx k y w) : Calls Try.prog 19 #[.pointer (some ⟨b, 0, none⟩)] w fun e w' => e = .returned (.int .i64 s.edge) ∧ w = w' := by
  obtain ⟨mp, hh, _⟩ := h.duo.is; exact edge_c s b mp w hh
theorem tstate (h : Trio w0 b s bx sx k y w) : Calls Try.prog 12 #[.pointer (some ⟨b, 0, none⟩)] w fun e w' => e = .returned (.int .u8 s.state) ∧ w = w' := by
  obtain ⟨mp, hh, _⟩ := h.duo.is; exact state_c s b mp w hh
theorem tcells (h : Trio w0 b s bx sx k y w) : w.cell? ⟨k, 1, none⟩ = some (.int .u32 y.una) ∧ w.cell? ⟨k, 2, none⟩ = some (.int .u32 y.next) ∧ w.cell? ⟨k, 3, none⟩ = some (.int .i64 y.n) ∧ w.cell? ⟨k, 4, none⟩ = some (.int .i64 y.f) :=
  ⟨h.y.cell rfl, h.y.cell rfl, h.y.cell rfl, h.y.cell rfl⟩
theorem txcells (h : Trio w0 b s bx sx k y w) : w.cell? ⟨bx, 1, none⟩ = some (.int .i64 sx.window) ∧ w.cell? ⟨bx, 2, none⟩ = some (.int .i64 sx.edge) ∧ w.cell? ⟨bx, 3, none⟩ = some (.int .u8 sx.state) :=
  ⟨h.duo.rx.cell rfl, h.duo.rx.cell rfl, h.duo.rx.cell rfl⟩
end
end Go.Proofs.Ytbodppjponepgaa.Cg
