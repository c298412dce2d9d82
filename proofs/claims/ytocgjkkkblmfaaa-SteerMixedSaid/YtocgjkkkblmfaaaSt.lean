import Derived.Test.YtocgjkkkblmfaaaProg
import Derived.Test.YtocgjkkkblmfaaaObj
import Derived.Test.YtocgjkkkblmfaaaAid
import Derived.FnLit
import Derived.Outline
import Derived.Lib.Hide
import Derived.Tactics
import Derived.RegionTactic
import Derived.BigRegion
import Derived.LoopTactic
import Derived.OwnWalk
import Derived.Deep.QuietTactic
import Derived.BigQuiet
import Derived.WideLaws
import Derived.WalkMore
import Derived.ScopeJumps
namespace Go.Proofs.Ytocgjkkkblmfaaa.St
open Go.RowKit Blk
set_option linter.unusedVariables false

def byteAt (s : ByteArray) (i : Nat) : Nat := (s.data.toList.getD i 0).toNat
def bitAt (s : ByteArray) (i : Nat) : Bool := (byteAt s (i / 8)).testBit (7 - i % 8)
def win (s : ByteArray) : Nat → BitVec 32
  | 0 => BitVec.ofNat 32 (16777216 * byteAt s 0 + 65536 * byteAt s 1 + 256 * byteAt s 2 + byteAt s 3)
  | i + 1 => (win s i <<< 1) ||| (if bitAt s (i + 32) then 1#32 else 0#32)
def hsh (key text : ByteArray) : Nat → BitVec 32
  | 0 => 0#32
  | i + 1 => if bitAt text i then hsh key text i ^^^ win key i else hsh key text i

set_option maxHeartbeats 2000000 in
set_option maxRecDepth 1000000 in
theorem hash_bad (key text : ByteArray) (w : World) (h : key.size ≠ 40 ∨ 36 < text.size) (h1 : key.size ≤ 140737488351232) (h2 : text.size ≤ 140737488351232) :
    Calls Try.prog 9 #[.string key, .string text] w fun e w' => e = .returned (.tuple #[.int .u32 0, .int .i64 2]) ∧ w = w' := by
  by_cases c : key.size = 40
  · have hc := Lib.hid c
    have e : ((key.size : Int) != 40) = false := by rw [bne_eq_false_iff_eq]; omega
    have e2 : 36 < text.size := by omega
    clear h c
    go_enter Try.func9, Try.ntmps9
    go_wp2
    go_step3
    go_wp2
    try rw [Exit.noGoto_ret]
    go_ret2
    exact ⟨rfl, rfl⟩
  · have e : ((key.size : Int) != 40) = true := by rw [bne_iff_ne]; omega
    clear h c
    go_enter Try.func9, Try.ntmps9
    go_wp2
    go_step3
    go_wp2
    try rw [Exit.noGoto_ret]
    go_ret2
    exact ⟨rfl, rfl⟩

theorem bv_wrap (x : BitVec 32) : IntKind.u32.wrap ((x.toNat : Nat) : Int) = ((x.toNat : Nat) : Int) := by
  have := x.isLt
  rw [IntKind.wrap_u32]; omega
theorem bv_of (x : BitVec 32) : BitVec.ofInt 32 ((x.toNat : Nat) : Int) = x := by
  rw [BitVec.ofInt_natCast]; apply BitVec.eq_of_toNat_eq; simp
theorem xor_bv (x y : BitVec 32) : Go.bits .xor .u32 ((x.toNat : Nat) : Int) ((y.toNat : Nat) : Int) = (((x ^^^ y).toNat : Nat) : Int) := by
  show IntKind.u32.wrap ((BitVec.ofInt 32 ((x.toNat : Nat) : Int) ^^^ BitVec.ofInt 32 ((y.toNat : Nat) : Int)).toNat : Int) = _
  rw [bv_of, bv_of, bv_wrap]
theorem or_bv (x y : BitVec 32) : Go.bits .or .u32 ((x.toNat : Nat) : Int) ((y.toNat : Nat) : Int) = (((x ||| y).toNat : Nat) : Int) := by
  show IntKind.u32.wrap ((BitVec.ofInt 32 ((x.toNat : Nat) : Int) ||| BitVec.ofInt 32 ((y.toNat : Nat) : Int)).toNat : Int) = _
  rw [bv_of, bv_of, bv_wrap]
theorem shl_bv (x : BitVec 32) : ((x.toNat : Nat) : Int) * (2 : Int) % (4294967296 : Int) = (((x <<< 1).toNat : Nat) : Int) := by
  rw [BitVec.toNat_shiftLeft, Nat.shiftLeft_eq]
  omega
theorem wraps_u32 (n : Int) (h0 : 0 ≤ n) (h1 : n < 2 ^ 32) : IntKind.u32.wrap n = n := by rw [IntKind.wrap_u32]; omega
theorem tb (c k : Nat) : ((c : Int) / 2 ^ k) % 2 = if c.testBit k then 1 else 0 := by
  have e : ((2 : Int) ^ k) = ((2 ^ k : Nat) : Int) := by simp
  rw [e, ← Int.natCast_ediv, Nat.testBit_eq_decide_div_mod_eq]
  generalize c / 2 ^ k = q
  by_cases h : q % 2 = 1
  · rw [decide_eq_true h, if_pos rfl]; omega
  · rw [decide_eq_false h, if_neg (by decide)]; omega
theorem and_u8 (c k : Nat) (hc : c < 256) : Go.bits .and .u8 ((c : Int) / 2 ^ k) 1 = if c.testBit k then 1 else 0 := by
  rw [← tb]
  have e : ((2 : Int) ^ k) = ((2 ^ k : Nat) : Int) := by simp
  have hp : 0 < 2 ^ k := Nat.two_pow_pos k
  have hle : c / 2 ^ k ≤ c := Nat.div_le_self _ _
  rw [e, ← Int.natCast_ediv]
  generalize c / 2 ^ k = q at *
  exact bits_mask .u8 8 (by decide) wraps_u8 1 (by decide) _ (by omega) (by omega)
theorem and_u32 (c k : Nat) (hc : c < 256) : Go.bits .and .u32 ((c : Int) / 2 ^ k % 4294967296) 1 = if c.testBit k then 1 else 0 := by
  rw [← tb]
  have e : ((2 : Int) ^ k) = ((2 ^ k : Nat) : Int) := by simp
  have hle : c / 2 ^ k ≤ c := Nat.div_le_self _ _
  rw [e, ← Int.natCast_ediv]
  generalize c / 2 ^ k = q at *
  have em : ((q : Nat) : Int) % 4294967296 = (q : Int) := by omega
  rw [em]
  exact bits_mask .u32 32 (by decide) wraps_u32 1 (by decide) _ (by omega) (by omega)
theorem byte_lt (s : ByteArray) (i : Nat) : byteAt s i < 256 := Aid.byte_lt _ _
theorem byte_is (s : ByteArray) (i : Nat) (h : i < s.size) : ((s[i]'h).toNat) = byteAt s i := by
  unfold byteAt
  have h' : i < s.data.toList.length := by simpa using h
  rw [List.getD_eq_getElem?_getD, List.getElem?_eq_getElem h']
  rfl
theorem next_win (s : ByteArray) (i : Nat) : Go.bits .or .u32 ((((win s i).toNat : Nat) : Int) * (2 : Int) % (4294967296 : Int)) (if (byteAt s (i / 8 + 4)).testBit (7 - i % 8) then 1 else 0) = (((win s (i + 1)).toNat : Nat) : Int) := by
  rw [shl_bv]
  have e : (if (byteAt s (i / 8 + 4)).testBit (7 - i % 8) then (1 : Int) else 0) = (((if bitAt s (i + 32) then 1#32 else 0#32 : BitVec 32).toNat : Nat) : Int) := by
    unfold bitAt
    rw [show (i + 32) / 8 = i / 8 + 4 by omega, show (i + 32) % 8 = i % 8 by omega]
    split <;> rfl
  rw [e, or_bv]
  rfl
theorem first_win (s : ByteArray) : Go.bits .or .u32 (Go.bits .or .u32 (Go.bits .or .u32 ((byteAt s 0 : Int) % 4294967296 * 16777216 % 4294967296) ((byteAt s 1 : Int) % 4294967296 * 65536 % 4294967296)) ((byteAt s 2 : Int) % 4294967296 * 256 % 4294967296)) ((byteAt s 3 : Int) % 4294967296) = (((win s 0).toNat : Nat) : Int) := by
  have b0 := byte_lt s 0
  have b1 := byte_lt s 1
  have b2 := byte_lt s 2
  have b3 := byte_lt s 3
  have e0 : (byteAt s 0 : Int) % 4294967296 * 16777216 % 4294967296 = 16777216 * byteAt s 0 := by omega
  have e1 : (byteAt s 1 : Int) % 4294967296 * 65536 % 4294967296 = 65536 * byteAt s 1 := by omega
  have e2 : (byteAt s 2 : Int) % 4294967296 * 256 % 4294967296 = 256 * byteAt s 2 := by omega
  have e3 : (byteAt s 3 : Int) % 4294967296 = byteAt s 3 := by omega
  rw [e0, e1, e2, e3]
  have hw : (((win s 0).toNat : Nat) : Int) = 16777216 * byteAt s 0 + 65536 * byteAt s 1 + 256 * byteAt s 2 + byteAt s 3 := by
    show (((BitVec.ofNat 32 (16777216 * byteAt s 0 + 65536 * byteAt s 1 + 256 * byteAt s 2 + byteAt s 3)).toNat : Nat) : Int) = _
    rw [BitVec.toNat_ofNat]
    omega
  rw [hw]
  generalize byteAt s 0 = x0 at *
  generalize byteAt s 1 = x1 at *
  generalize byteAt s 2 = x2 at *
  generalize byteAt s 3 = x3 at *
  rw [bits_join .u32 32 (by decide) wraps_u32 24 (16777216 * (x0 : Int)) (65536 * (x1 : Int)) (by omega) (by omega) (by omega) (by omega) (by omega) (by omega)]
  rw [bits_join .u32 32 (by decide) wraps_u32 16 (16777216 * (x0 : Int) + 65536 * (x1 : Int)) (256 * (x2 : Int)) (by omega) (by omega) (by omega) (by omega) (by omega) (by omega)]
  rw [bits_join .u32 32 (by decide) wraps_u32 8 (16777216 * (x0 : Int) + 65536 * (x1 : Int) + 256 * (x2 : Int)) (x3 : Int) (by omega) (by omega) (by omega) (by omega) (by omega) (by omega)]

end Go.Proofs.Ytocgjkkkblmfaaa.St
