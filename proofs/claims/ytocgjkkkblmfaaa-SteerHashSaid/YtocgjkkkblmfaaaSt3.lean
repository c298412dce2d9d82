import Derived.Test.YtocgjkkkblmfaaaSt
namespace Go.Proofs.Ytocgjkkkblmfaaa.St
open Go.RowKit
set_option linter.unusedVariables false

theorem one_bit (b : Bool) (j : Nat) : (if b then 1#32 else 0#32 : BitVec 32).getLsbD j = (decide (j = 0) && b) := by
  cases b
  · simp
  · simp [BitVec.getLsbD_one]
theorem tb_div (n j : Nat) : n.testBit j = decide (n / 2 ^ j % 2 = 1) := Nat.testBit_eq_decide_div_mod_eq

set_option maxHeartbeats 2000000 in
theorem win0_bit (s : ByteArray) (j : Nat) (hj : j < 32) : (win s 0).getLsbD j = bitAt s (31 - j) := by
  have b0 := byte_lt s 0
  have b1 := byte_lt s 1
  have b2 := byte_lt s 2
  have b3 := byte_lt s 3
  show (BitVec.ofNat 32 (16777216 * byteAt s 0 + 65536 * byteAt s 1 + 256 * byteAt s 2 + byteAt s 3)).getLsbD j = _
  rw [BitVec.getLsbD_ofNat, decide_eq_true hj, Bool.true_and]
  unfold bitAt
  rw [tb_div, tb_div]
  rcases Nat.lt_or_ge j 8 with h | h
  · rw [show (31 - j) / 8 = 3 by omega, show 7 - (31 - j) % 8 = j by omega]
    generalize byteAt s 0 = x0 at *
    generalize byteAt s 1 = x1 at *
    generalize byteAt s 2 = x2 at *
    generalize byteAt s 3 = x3 at *
    obtain rfl | rfl | rfl | rfl | rfl | rfl | rfl | rfl : j = 0 ∨ j = 1 ∨ j = 2 ∨ j = 3 ∨ j = 4 ∨ j = 5 ∨ j = 6 ∨ j = 7 := by omega
    all_goals (apply decide_eq_decide.2; simp only [Nat.reducePow]; omega)
  rcases Nat.lt_or_ge j 16 with h' | h'
  · rw [show (31 - j) / 8 = 2 by omega, show 7 - (31 - j) % 8 = j - 8 by omega]
    generalize byteAt s 0 = x0 at *
    generalize byteAt s 1 = x1 at *
    generalize byteAt s 2 = x2 at *
    generalize byteAt s 3 = x3 at *
    obtain rfl | rfl | rfl | rfl | rfl | rfl | rfl | rfl : j = 8 ∨ j = 9 ∨ j = 10 ∨ j = 11 ∨ j = 12 ∨ j = 13 ∨ j = 14 ∨ j = 15 := by omega
    all_goals (apply decide_eq_decide.2; simp only [Nat.reducePow, Nat.reduceSub]; omega)
  rcases Nat.lt_or_ge j 24 with h'' | h''
  · rw [show (31 - j) / 8 = 1 by omega, show 7 - (31 - j) % 8 = j - 16 by omega]
    generalize byteAt s 0 = x0 at *
    generalize byteAt s 1 = x1 at *
    generalize byteAt s 2 = x2 at *
    generalize byteAt s 3 = x3 at *
    obtain rfl | rfl | rfl | rfl | rfl | rfl | rfl | rfl : j = 16 ∨ j = 17 ∨ j = 18 ∨ j = 19 ∨ j = 20 ∨ j = 21 ∨ j = 22 ∨ j = 23 := by omega
    all_goals (apply decide_eq_decide.2; simp only [Nat.reducePow, Nat.reduceSub]; omega)
  · rw [show (31 - j) / 8 = 0 by omega, show 7 - (31 - j) % 8 = j - 24 by omega]
    generalize byteAt s 0 = x0 at *
    generalize byteAt s 1 = x1 at *
    generalize byteAt s 2 = x2 at *
    generalize byteAt s 3 = x3 at *
    obtain rfl | rfl | rfl | rfl | rfl | rfl | rfl | rfl : j = 24 ∨ j = 25 ∨ j = 26 ∨ j = 27 ∨ j = 28 ∨ j = 29 ∨ j = 30 ∨ j = 31 := by omega
    all_goals (apply decide_eq_decide.2; simp only [Nat.reducePow, Nat.reduceSub]; omega)

theorem win_bit (s : ByteArray) (i : Nat) : ∀ j, j < 32 → (win s i).getLsbD j = bitAt s (i + 31 - j) := by
  induction i with
  | zero => intro j hj; rw [win0_bit s j hj, Nat.zero_add]
  | succ i ih =>
    intro j hj
    show ((win s i <<< 1) ||| (if bitAt s (i + 32) then 1#32 else 0#32)).getLsbD j = _
    rw [BitVec.getLsbD_or, BitVec.getLsbD_shiftLeft, one_bit]
    by_cases c : j = 0
    · subst c
      simp
    · rw [decide_eq_true hj, decide_eq_false c, decide_eq_false (show ¬ j < 1 by omega), ih (j - 1) (by omega)]
      simp only [Bool.not_false, Bool.true_and, Bool.false_and, Bool.or_false]
      congr 1; omega

theorem win_ext (s t : ByteArray) (i k : Nat) (h : ∀ j, j < 32 → bitAt s (i + j) = bitAt t (k + j)) : win s i = win t k := by
  apply BitVec.eq_of_getLsbD_eq
  intro j hj
  rw [win_bit s i j hj, win_bit t k j hj]
  have := h (31 - j) (by omega)
  rw [show i + 31 - j = i + (31 - j) by omega, show k + 31 - j = k + (31 - j) by omega]
  exact this

/-- A byte's part of a hash. -/
def cb (key : ByteArray) (m c : Nat) : BitVec 32 :=
  ((((((((if c.testBit 7 then win key (8 * m) else 0#32) ^^^ (if c.testBit 6 then win key (8 * m + 1) else 0#32)) ^^^ (if c.testBit 5 then win key (8 * m + 2) else 0#32)) ^^^ (if c.testBit 4 then win key (8 * m + 3) else 0#32))
    ^^^ (if c.testBit 3 then win key (8 * m + 4) else 0#32)) ^^^ (if c.testBit 2 then win key (8 * m + 5) else 0#32)) ^^^ (if c.testBit 1 then win key (8 * m + 6) else 0#32)) ^^^ (if c.testBit 0 then win key (8 * m + 7) else 0#32))

theorem hsh_step (key text : ByteArray) (i : Nat) : hsh key text (i + 1) = hsh key text i ^^^ (if bitAt text i then win key i else 0#32) := by
  show (if bitAt text i then _ else _) = _
  cases bitAt text i <;> simp
theorem bit_byte (s : ByteArray) (m r : Nat) (hr : r < 8) : bitAt s (8 * m + r) = (byteAt s m).testBit (7 - r) := by
  unfold bitAt; rw [show (8 * m + r) / 8 = m by omega, show (8 * m + r) % 8 = r by omega]
theorem hsh_byte (key text : ByteArray) (m : Nat) : hsh key text (8 * (m + 1)) = hsh key text (8 * m) ^^^ cb key m (byteAt text m) := by
  rw [show 8 * (m + 1) = 8 * m + 7 + 1 by omega, hsh_step, show 8 * m + 7 = 8 * m + 6 + 1 by omega, hsh_step, show 8 * m + 6 = 8 * m + 5 + 1 by omega, hsh_step, show 8 * m + 5 = 8 * m + 4 + 1 by omega, hsh_step,
    show 8 * m + 4 = 8 * m + 3 + 1 by omega, hsh_step, show 8 * m + 3 = 8 * m + 2 + 1 by omega, hsh_step, show 8 * m + 2 = 8 * m + 1 + 1 by omega, hsh_step, show 8 * m + 1 = 8 * m + 0 + 1 by omega, hsh_step]
  simp only [Nat.add_assoc, Nat.reduceAdd]
  rw [bit_byte text m 7 (by omega), bit_byte text m 6 (by omega), bit_byte text m 5 (by omega), bit_byte text m 4 (by omega), bit_byte text m 3 (by omega), bit_byte text m 2 (by omega), bit_byte text m 1 (by omega), show bitAt text (8 * m) = (byteAt text m).testBit 7 from bit_byte text m 0 (by omega)]
  unfold cb
  simp only [Nat.reduceSub, BitVec.xor_assoc]
end Go.Proofs.Ytocgjkkkblmfaaa.St
