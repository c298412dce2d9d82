import Derived.WalkKit
import Derived.Below
import Derived.Deep.Draws
namespace Go.Proofs.Ytbpinkelcbcpjaa.Blk
open Go Go.RowKit

/-- From w to w' only blocks that B lets (and new ones) have turned. -/
structure Ch (B : Nat → Prop) (w w' : World) : Prop where
  os : w'.os = w.os
  tape : w'.tape = w.tape
  output : w'.output = w.output
  size : w.heap.size ≤ w'.heap.size
  block : ∀ k, k < w.heap.size → ¬ B k → w'.heap[k]? = w.heap[k]?

theorem Ch.refl (B : Nat → Prop) (w : World) : Ch B w w := ⟨rfl, rfl, rfl, Nat.le_refl _, fun _ _ _ => rfl⟩
theorem Ch.trans {B : Nat → Prop} {w w1 w2 : World} (h : Ch B w w1) (k : Ch B w1 w2) : Ch B w w2 :=
  ⟨k.os.trans h.os, k.tape.trans h.tape, k.output.trans h.output, Nat.le_trans h.size k.size, fun i hi hb => (k.block i (Nat.lt_of_lt_of_le hi h.size) hb).trans (h.block i hi hb)⟩
theorem Ch.mono {B B' : Nat → Prop} {w w' : World} (h : Ch B w w') (hB : ∀ k, k < w.heap.size → B k → B' k) : Ch B' w w' :=
  ⟨h.os, h.tape, h.output, h.size, fun i hi hb => h.block i hi (fun x => hb (hB i hi x))⟩
theorem Ch.drewN {B : Nat → Prop} {w w' : World} (h : Ch B w w') (n : Nat) : Ch B w (w'.drewN n) := ⟨h.os, h.tape, h.output, h.size, h.block⟩
theorem Ch.drew {B : Nat → Prop} {w w' : World} (h : Ch B w w') : Ch B w w'.drew := ⟨h.os, h.tape, h.output, h.size, h.block⟩
theorem Ch.alloc {B : Nat → Prop} {w w' : World} (h : Ch B w w') (o : Obj) : Ch B w (w'.alloc o) :=
  ⟨h.os, h.tape, h.output, by show _ ≤ (w'.heap.push o).size; rw [Array.size_push]; exact Nat.le_succ_of_le h.size, fun i hi hb => by
    rw [← h.block i hi hb]
    have := Nat.lt_of_lt_of_le hi h.size
    show (w'.heap.push o)[i]? = _
    rw [Array.getElem?_push]; split <;> first | omega | rfl⟩
theorem heap_set (w : World) (a : Addr) (v : Value) (k : Nat) (h : k ≠ a.block) : (w.setCell a v).heap[k]? = w.heap[k]? := by
  unfold World.setCell
  simp only [Array.getElem?_modify]
  rw [if_neg (fun e => h e.symm)]
theorem size_set (w : World) (a : Addr) (v : Value) : (w.setCell a v).heap.size = w.heap.size := by
  unfold World.setCell; simp
theorem Ch.set {B : Nat → Prop} {w w' : World} (h : Ch B w w') (a : Addr) (v : Value) (hB : B a.block ∨ w.heap.size ≤ a.block) : Ch B w (w'.setCell a v) :=
  ⟨h.os, h.tape, h.output, by rw [size_set]; exact h.size, fun i hi hb => by
    rw [heap_set _ _ _ _ (fun e => by subst e; rcases hB with x | x; exact hb x; omega)]; exact h.block i hi hb⟩
theorem Ch.atb {b : Nat} {w w' : World} (h : Ch (· = b) w w') (i : Nat) (v : Value) : Ch (· = b) w (w'.setCell ⟨b, i, none⟩ v) := h.set ⟨b, i, none⟩ v (.inl rfl)
theorem Ch.ofBelow {B : Nat → Prop} {w w' : World} (h : Below w.heap.size w w') : Ch B w w' := ⟨h.os, h.tape, h.output, h.size, fun i hi _ => h.block i hi⟩
theorem Ch.below {B : Nat → Prop} {w w' : World} (h : Ch B w w') (n : Nat) (hn : n ≤ w.heap.size) (hB : ∀ k, k < n → ¬ B k) : Below n w w' :=
  ⟨h.os, h.tape, h.output, h.size, fun i hi => h.block i (Nat.lt_of_lt_of_le hi hn) (hB i hi)⟩

/-- The same but for the count of what was drawn. -/
structure Same (w w' : World) : Prop where
  heap : w'.heap = w.heap
  os : w'.os = w.os
  tape : w'.tape = w.tape
  output : w'.output = w.output
theorem Same.refl (w : World) : Same w w := ⟨rfl, rfl, rfl, rfl⟩
theorem Same.ch {B : Nat → Prop} {w w' : World} (h : Same w w') : Ch B w w' := ⟨h.os, h.tape, h.output, by rw [h.heap]; exact Nat.le_refl _, fun k _ _ => by rw [h.heap]⟩
theorem Same.ch' {B : Nat → Prop} {w w1 w2 : World} (h : Same w1 w2) (k : Ch B w w1) : Ch B w w2 := k.trans h.ch

/-- A block of cells. -/
def Has (w : World) (b : Nat) (c : List Value) (T : TypeId) : Prop := w.heap[b]? = some (.cells c.toArray T (0, 0))

theorem Has.cell {w : World} {b : Nat} {c : List Value} {T : TypeId} (h : Has w b c T) {i : Nat} {v : Value} (hi : c[i]? = some v) : w.cell? ⟨b, i, none⟩ = some v := by
  unfold World.cell?; rw [h]; simpa using hi
theorem Has.free {w : World} {b : Nat} {c : List Value} {T : TypeId} (h : Has w b c T) (i : Nat) : w.frozen? ⟨b, i, none⟩ = false := by
  unfold World.frozen?; rw [h]; simp
theorem Has.lt {w : World} {b : Nat} {c : List Value} {T : TypeId} (h : Has w b c T) : b < w.heap.size := by
  rcases Nat.lt_or_ge b w.heap.size with x | x
  · exact x
  · unfold Has at h; rw [Array.getElem?_eq_none x] at h; cases h
theorem Has.set {w : World} {b : Nat} {c : List Value} {T : TypeId} (h : Has w b c T) (i : Nat) (v : Value) : Has (w.setCell ⟨b, i, none⟩ v) b (c.set i v) T := by
  unfold Has World.setCell at *
  simp only [Array.getElem?_modify, h]
  simp
theorem Has.setOther {w : World} {b : Nat} {c : List Value} {T : TypeId} (h : Has w b c T) (a : Addr) (v : Value) (hb : b ≠ a.block) : Has (w.setCell a v) b c T := by
  unfold Has; rw [heap_set _ _ _ _ hb]; exact h
theorem Has.drewN {w : World} {b : Nat} {c : List Value} {T : TypeId} (h : Has w b c T) (n : Nat) : Has (w.drewN n) b c T := h
theorem Has.drew {w : World} {b : Nat} {c : List Value} {T : TypeId} (h : Has w b c T) : Has w.drew b c T := h
theorem Has.same {w w' : World} {b : Nat} {c : List Value} {T : TypeId} (h : Has w b c T) (k : Same w w') : Has w' b c T := by unfold Has; rw [k.heap]; exact h
theorem Has.alloc {w : World} {b : Nat} {c : List Value} {T : TypeId} (h : Has w b c T) (o : Obj) : Has (w.alloc o) b c T := by
  have := h.lt
  unfold Has at *
  show (w.heap.push o)[b]? = _
  rw [Array.getElem?_push]; split
  · omega
  · exact h
theorem Has.new (w : World) (c : List Value) (T : TypeId) : Has (w.alloc (.cells c.toArray T)) w.heap.size c T := by
  show (w.heap.push _)[w.heap.size]? = _
  exact Array.getElem?_push_size
theorem Has.ch {B : Nat → Prop} {w w' : World} {b : Nat} {c : List Value} {T : TypeId} (h : Has w b c T) (k : Ch B w w') (hb : ¬ B b) : Has w' b c T := by
  unfold Has; rw [k.block b h.lt hb]; exact h
theorem Has.below {n : Nat} {w w' : World} {b : Nat} {c : List Value} {T : TypeId} (h : Has w b c T) (k : Below n w w') (hb : b < n) : Has w' b c T := by
  unfold Has; rw [k.block b hb]; exact h
end Go.Proofs.Ytbpinkelcbcpjaa.Blk
