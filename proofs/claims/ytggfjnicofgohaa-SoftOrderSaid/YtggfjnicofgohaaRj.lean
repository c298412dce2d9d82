import Derived.Test.YtggfjnicofgohaaRi
import Derived.Deep.RegionHeld3
namespace Go.Proofs.Ytggfjnicofgohaa.Sf
open Go.RowKit Blk Go.Proofs.YtggfjnicofgohaaW.PrintWords
set_option linter.unusedVariables false

theorem quiet_left {P : Program} {f : FuncId} {args : Array Value} {w : World} {n : Nat} {v : Value}
    (h : Calls P f args (w.drewN n) fun e w' => e = .returned v ∧ w.drewN n = w') : Calls P f args (w.drewN n) fun e w'' => e = .returned v ∧ ∃ m, w'' = w.drewN m :=
  h.mono fun _ _ ⟨he, hm⟩ => ⟨he, n, hm.symm⟩
def xc (x : Op.Stp) : List Value := [.int .i64 x.d, .int .i64 x.core, .int .u32 x.hash, .int .u64 x.id, .slice x.A x.on.length x.c]
/-- Both, and a step of the script. -/
structure Tri (w0 : World) (B b b' l : Nat) (s : St) (r : Rf) (k : Nat) (x : Op.Stp) (w : World) : Prop where
  two : Two w0 B b b' l s r w
  y : Has w k (xc x) 35
theorem later {w wx : World} {a : Addr} {v : Value} (hb : Below w.heap.size w wx) (h : w.cell? a = some v) : wx.cell? a = some v := (hb.cell (World.block_lt_of_cell? _ _ h)).trans h
theorem Raw.later {w wx : World} {A : Option Addr} {on : List Int} (hb : Below w.heap.size w wx) (h : Raw w A on) : Raw wx A on := by
  rcases h with h | ⟨g, o, e, h⟩
  · exact .inl h
  · exact .inr ⟨g, o, e, fun j x hx => Sf.later hb (h j x hx)⟩
section
variable {w0 w : World} {B b b' l k : Nat} {s : St} {r : Rf} {x : Op.Stp} {K : Nat}
theorem Two.step (h : Two w0 B b b' l s r w) (x : Op.Stp) : Tri w0 B b b' l s r w.heap.size x (w.alloc (.cells (xc x).toArray 35)) := ⟨h.alloc _, Has.new w (xc x) 35⟩
theorem Tri.drew (h : Tri w0 B b b' l s r k x w) : Tri w0 B b b' l s r k x w.drew := ⟨h.two.drew, h.y⟩
theorem Tri.drewN (h : Tri w0 B b b' l s r k x w) (n : Nat) : Tri w0 B b b' l s r k x (w.drewN n) := ⟨h.two.drewN n, h.y⟩
theorem Tri.under (h : Tri w0 B b b' l s r k x w) {w' : World} (hb : Below w.heap.size w w') : Tri w0 B b b' l s r k x w' := ⟨h.two.under hb, (keeps_below (T := fun _ => True) hb).has trivial h.y⟩
theorem tput (core hash id : Int) {s' : St} {v : Int} (h : Tri w0 B b b' l s r k x w) {r1 : Rf} (hs : Sim s r1 K) (hK : K ≤ 100000) (hh : 0 ≤ hash ∧ hash ≤ 4294967295) (hp : s.put core hash id = (s', v)) :
    Calls Try.prog 14 #[.pointer (some ⟨b, 0, none⟩), .int .i64 core, .int .u32 hash, .int .u64 id] w fun e w' => e = .returned (.int .i64 v) ∧ Tri w0 B b b' l s' r k x w' := by
  refine (h.two.put hs hK core hash id hh).mono ?_
  rintro e w' ⟨rfl, h1, h2⟩
  rw [hp] at h1 ⊢
  exact ⟨rfl, h1, h2.has rfl h.y⟩
theorem trput (core hash id : Int) {r' : Rf} {v : Int} (h : Tri w0 B b b' l s r k x w) {s1 : St} (hs : Sim s1 r K) (hK : K ≤ 100000) (hh : 0 ≤ hash ∧ hash ≤ 4294967295) (hp : r.put core hash id = (r', v)) :
    Calls Try.prog 17 #[.pointer (some ⟨b', 0, none⟩), .int .i64 core, .int .u32 hash, .int .u64 id] w fun e w' => e = .returned (.int .i64 v) ∧ Tri w0 B b b' l s r' k x w' := by
  refine (h.two.rput hs hK core hash id hh).mono ?_
  rintro e w' ⟨rfl, h1, h2⟩
  rw [hp] at h1 ⊢
  exact ⟨rfl, h1, h2.has rfl h.y⟩
theorem ttake (core : Int) {s' : St} {v1 v2 : Int} {v3 : Bool} (h : Tri w0 B b b' l s r k x w) {r1 : Rf} (hs : Sim s r1 K) (hK : K ≤ 100000) (hp : s.take core = (s', v1, v2, v3)) :
    Calls Try.prog 12 #[.pointer (some ⟨b, 0, none⟩), .int .i64 core] w fun e w' => e = .returned (.tuple #[.int .u64 v1, .int .u32 v2, .bool v3]) ∧ Tri w0 B b b' l s' r k x w' := by
  refine (h.two.take hs hK core).mono ?_
  rintro e w' ⟨rfl, h1, h2⟩
  rw [hp] at h1 ⊢
  exact ⟨rfl, h1, h2.has rfl h.y⟩
theorem trtake (core : Int) {r' : Rf} {v1 v2 : Int} {v3 : Bool} (h : Tri w0 B b b' l s r k x w) {s1 : St} (hs : Sim s1 r K) (hp : r.take core = (r', v1, v2, v3)) :
    Calls Try.prog 19 #[.pointer (some ⟨b', 0, none⟩), .int .i64 core] w fun e w' => e = .returned (.tuple #[.int .u64 v1, .int .u32 v2, .bool v3]) ∧ Tri w0 B b b' l s r' k x w' := by
  refine (h.two.rtake hs core).mono ?_
  rintro e w' ⟨rfl, h1, h2⟩
  rw [hp] at h1 ⊢
  exact ⟨rfl, h1, h2.has rfl h.y⟩
theorem tcores {s' : St} {v : Int} (h : Tri w0 B b b' l s r k x w) (hn : s.n ≤ 8) {base2 : Nat} (A : Option Addr) (c : Nat) (on : List Int) (hq : QRow w base2 3 1 (.slice A on.length c) on.length (on.map (Value.int .i64))) (hlen : on.length ≤ 1000000) (hp : s.cores on = (s', v)) :
    Calls Try.prog 11 #[.pointer (some ⟨b, 0, none⟩), .slice A on.length c] w fun e w' => e = .returned (.int .i64 v) ∧ Tri w0 B b b' l s' r k x w' := by
  refine (h.two.cores hn A c on hq hlen).mono ?_
  rintro e w' ⟨rfl, h1, h2⟩
  rw [hp] at h1 ⊢
  exact ⟨rfl, h1, h2.has rfl h.y⟩
theorem trcores {r' : Rf} {v : Int} (h : Tri w0 B b b' l s r k x w) (hn : r.n ≤ 8) (A : Option Addr) (c : Nat) (on : List Int) (hq : Raw w A on) (hlen : on.length ≤ 1000000) (hp : r.cores on = (r', v)) :
    Calls Try.prog 20 #[.pointer (some ⟨b', 0, none⟩), .slice A on.length c] w fun e w' => e = .returned (.int .i64 v) ∧ Tri w0 B b b' l s r' k x w' := by
  refine (h.two.rcores hn A c on hq hlen).mono ?_
  rintro e w' ⟨rfl, h1, h2⟩
  rw [hp] at h1 ⊢
  exact ⟨rfl, h1, h2.has rfl h.y⟩
theorem tcells (h : Tri w0 B b b' l s r k x w) : w.cell? ⟨k, 1, none⟩ = some (.int .i64 x.core) ∧ w.cell? ⟨k, 2, none⟩ = some (.int .u32 x.hash) ∧ w.cell? ⟨k, 3, none⟩ = some (.int .u64 x.id) ∧ w.cell? ⟨k, 4, none⟩ = some (.slice x.A x.on.length x.c) :=
  ⟨h.y.cell rfl, h.y.cell rfl, h.y.cell rfl, h.y.cell rfl⟩
end
/-- What a core has, by the reference's cells. -/
theorem Two.rcell {w0 w : World} {B b b' l : Nat} {s : St} {r : Rf} (h : Two w0 B b b' l s r w) : ∃ q ro rk l' lo lk, w.cell? ⟨b', 1, none⟩ = some (.slice (some ⟨q, ro, none⟩) r.n rk) ∧ w.cell? ⟨b', 2, none⟩ = some (.slice (some ⟨l', lo, none⟩) r.n lk) ∧
    ∀ i : Nat, i < r.n → (∃ A c, w.cell? ⟨q, ro + i, none⟩ = some (.slice A (r.rows.getD i []).length c)) ∧ w.cell? ⟨l', lo + i, none⟩ = some (.int .u64 (r.lost.getD i 0)) := by
  obtain ⟨q, ro, rk, l', lo, lk, rv, O, R⟩ := h.r
  refine ⟨q, ro, rk, l', lo, lk, R.c1, R.c2, fun i hi => ⟨?_, (R.lc i hi).1⟩⟩
  obtain ⟨A, c, row, hrow, _, hc, _⟩ := R.row i hi
  rw [getD_of hrow]
  exact ⟨A, c, hc⟩
theorem sim_len {s : St} {r : Rf} {K : Nat} (h : Sim s r K) (i : Nat) (hi : i < s.n) : s.len i = ((r.rows.getD i []).length : Int) ∧ s.drops i = r.lost.getD i 0 := by
  unfold St.len St.drops
  rw [if_neg (by omega), if_neg (by omega), Int.toNat_natCast, h.rows, h.lost]
  exact ⟨rfl, rfl⟩
theorem sim_out {s : St} {r : Rf} {K : Nat} (h : Sim s r K) : s.len (-1) = 0 ∧ s.drops s.n = 0 := ⟨if_pos (.inl (by decide)), if_pos (.inr (by omega))⟩
end Go.Proofs.Ytggfjnicofgohaa.Sf
