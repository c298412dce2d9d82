import Derived.WalkKit
import Derived.Laws.BitsLemmas
import Derived.Laws.BytesArg
namespace Go.Proofs.Ytonpfbhfcefhcaa.Aid
open Go.RowKit

/-- The number of some bytes, the highest first. -/
def numN (l : List UInt8) : Nat := l.foldl (fun x c => 256 * x + c.toNat) 0

theorem numN_snoc (l : List UInt8) (c : UInt8) : numN (l ++ [c]) = 256 * numN l + c.toNat := by simp [numN]

theorem numN_lt (l : List UInt8) : numN l < 256 ^ l.length := by
  induction h : l.length generalizing l with
  | zero => obtain rfl := List.eq_nil_of_length_eq_zero h; simp [numN]
  | succ n ih =>
    obtain ⟨m, c, rfl⟩ : ∃ m c, l = m ++ [c] := ⟨l.dropLast, l.getLast (by intro e; simp [e] at h), (List.dropLast_concat_getLast _).symm⟩
    have hm : m.length = n := by simpa using h
    have := ih m hm
    rw [numN_snoc]
    have hc := c.toNat_lt
    rw [Nat.pow_succ]
    omega

theorem take_snoc (s : ByteArray) (k : Nat) (h : k < s.size) : s.data.toList.take (k + 1) = s.data.toList.take k ++ [s.data.toList.getD k 0] := by
  have h' : k < s.data.toList.length := by simpa using h
  rw [List.take_succ_eq_append_getElem h', show s.data.toList.getD k 0 = s.data.toList[k] by rw [List.getD_eq_getElem?_getD, List.getElem?_eq_getElem h']; rfl]

theorem pow_le {k : Nat} (m : Nat) (h : k ≤ m) : 256 ^ k ≤ 256 ^ m := Nat.pow_le_pow_right (by decide) h

theorem wraps_u64 (n : Int) (h₀ : 0 ≤ n) (h₁ : n < 2 ^ 64) : IntKind.u64.wrap n = n := by
  have e : IntKind.u64.wrap n = n % 18446744073709551616 := by simp [IntKind.wrap, IntKind.bits, IntKind.signed]
  rw [e]; omega

theorem wrap_u16 (n : Int) : IntKind.u16.wrap n = n % 65536 := by simp [IntKind.wrap, IntKind.bits, IntKind.signed]
theorem wrap_u64 (n : Int) : IntKind.u64.wrap n = n % 18446744073709551616 := by simp [IntKind.wrap, IntKind.bits, IntKind.signed]

/-- One byte more. -/
theorem join8 (x c : Int) (h0 : 0 ≤ x) (h1 : x < 72057594037927936) (c0 : 0 ≤ c) (c1 : c < 256) : Go.bits .or .u64 (x * 256) c = x * 256 + c :=
  bits_join .u64 64 (by decide) wraps_u64 8 (x * 256) c (by omega) (by omega) (by omega) c0 (by omega) (by omega)

/-- The eight bytes of a number, the highest first. -/
def be8 (x : Int) : List Int := [x / 72057594037927936, x / 281474976710656 % 256, x / 1099511627776 % 256, x / 4294967296 % 256, x / 16777216 % 256, x / 65536 % 256, x / 256 % 256, x % 256]

theorem new_cells (w : World) (xs : List Int) (T : TypeId) (j : Nat) (hj : j < xs.length) : (w.alloc (.cells (xs.map (Value.int .u8)).toArray T)).cell? ⟨w.heap.size, j, none⟩ = some (.int .u8 (xs.getD j 0)) := by
  unfold World.cell?
  show (match (w.heap.push (Obj.cells (xs.map (Value.int .u8)).toArray T (0, 0)))[w.heap.size]? with
    | some (Obj.cells c _ _) => if (none : Option Nat).isSome = true then none else c[j]?
    | _ => none) = _
  rw [Array.getElem?_push_size]
  simp [hj]

theorem byte_lt (l : List UInt8) (k : Nat) : (l.getD k 0).toNat < 256 := (l.getD k 0).toNat_lt
end Go.Proofs.Ytonpfbhfcefhcaa.Aid
