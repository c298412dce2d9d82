/- For every two texts and place the law WordJoins of the package stevedorelaw01 answers true: what is read of a text is read of it in whatever stands ahead of it; a text is its beginning and its rest. No condition beyond the kinds and what a text may take up. -/
import Derived.Test.YtpieabhpgefbnaaPWordJoinsx2
import Derived.OpenShut
namespace Go.Proofs.Ytpieabhpgefbnaa.Pure
open Go.RowKit Go.Proofs.Ytpieabhpgefbnaa.PWordJoins Go.Proofs.YtpieabhpgefbnaaW.PrintWords Go.Proofs.YtpieabhpgefbnaaW.PrintLast
set_option linter.unusedVariables false
theorem ba_ext {a b : ByteArray} (h : a.data.toList = b.data.toList) : a = b := by
  cases a; cases b; congr 1; exact Array.ext' h
theorem ex_list (s : ByteArray) (a b : Nat) : (s.extract a b).data.toList = (s.data.toList.drop a).take (b - a) := by
  rw [ByteArray.data_extract, Array.toList_extract, List.extract_eq_take_drop]
theorem app_list (a b : ByteArray) : (a ++ b).data.toList = a.data.toList ++ b.data.toList := by
  rw [ByteArray.data_append, Array.toList_append]
theorem len_list (s : ByteArray) : s.data.toList.length = s.size := by simp

/-- What a text's piece is, and its error. -/
def textR (s : ByteArray) (a n : Int) : ByteArray × Int :=
  if a < 0 ∨ n < 0 then (⟨#[]⟩, 2) else if (s.size : Int) < a ∨ (s.size : Int) - a < n then (⟨#[]⟩, 10) else (s.extract a.toNat (a + n).toNat, 0)

theorem textR_arg {s : ByteArray} {a n : Int} (h : a < 0 ∨ n < 0) : textR s a n = (⟨#[]⟩, 2) := if_pos h
theorem textR_short {s : ByteArray} {a n : Int} (h : ¬ (a < 0 ∨ n < 0)) (h2 : (s.size : Int) < a ∨ (s.size : Int) - a < n) : textR s a n = (⟨#[]⟩, 10) := (if_neg h).trans (if_pos h2)
theorem textR_ok {s : ByteArray} {a n : Int} (h : ¬ (a < 0 ∨ n < 0)) (h2 : ¬ ((s.size : Int) < a ∨ (s.size : Int) - a < n)) : textR s a n = (s.extract a.toNat (a + n).toNat, 0) := (if_neg h).trans (if_neg h2)

theorem textR_size (s : ByteArray) (a n : Int) (m : Nat) (hn : n = m) : (textR s a n).1.size ≤ m := by
  unfold textR
  split
  · exact Nat.zero_le _
  split
  · exact Nat.zero_le _
  · simp only [ByteArray.size_extract]; omega

theorem text_eq (k : Nat) (s : ByteArray) (a n : Int) (hs : s.size ≤ 140737488351232) (ha : -9223372036854775808 ≤ a ∧ a ≤ 9223372036854775807) (hn : -9223372036854775808 ≤ n ∧ n ≤ 9223372036854775807) :
    word_Text.f (k + 1) s a n = some (textR s a n) := by
  unfold word_Text.f
  by_cases c1 : a < 0
  · rw [if_pos c1, textR_arg (Or.inl c1)]; simp [word_Text.j0]
  rw [if_neg c1]
  by_cases c2 : n < 0
  · rw [textR_arg (Or.inr c2), decide_eq_true c2]; simp [word_Text.j0]
  rw [decide_eq_false c2]
  have c12 : ¬ (a < 0 ∨ n < 0) := by omega
  simp only [word_Text.j0, Bool.false_eq_true, if_false]
  by_cases c3 : a > s.size
  · rw [if_pos c3, textR_short c12 (Or.inl c3)]
  rw [if_neg c3]
  have e1 : wrap64 ((s.size : Int) - a) = s.size - a := by unfold wrap64; omega
  rw [e1]
  by_cases c4 : n > s.size - a
  · rw [if_pos c4, textR_short c12 (Or.inr c4)]
  have e2 : wrap64 (a + n) = a + n := by unfold wrap64; omega
  rw [if_neg c4, textR_ok c12 (by omega), e2, if_pos (by omega), if_pos (by omega), if_pos (by omega)]

/-- The number of n bytes at a place, and its error. -/
def numR (s : ByteArray) (a n : Int) : Int × Int := ((Aid.numN (textR s a n).1.data.toList : Int), (textR s a n).2)

theorem byte_eq (k : Nat) (s : ByteArray) (a : Int) (hs : s.size ≤ 140737488351232) (ha : -9223372036854775808 ≤ a ∧ a ≤ 9223372036854775807) : word_Byte.f (k + 1) s a = some (numR s a 1) := by
  unfold word_Byte.f word_read_uint8.f
  rw [text_eq k s a 1 hs ha (by omega)]
  simp only [Option.bind_some]
  rw [if_pos (textR_size s a 1 1 rfl)]
  rfl
theorem two_eq (k : Nat) (s : ByteArray) (a : Int) (hs : s.size ≤ 140737488351232) (ha : -9223372036854775808 ≤ a ∧ a ≤ 9223372036854775807) : word_Two.f (k + 1) s a = some (numR s a 2) := by
  unfold word_Two.f word_read_uint16.f
  rw [text_eq k s a 2 hs ha (by omega)]
  simp only [Option.bind_some]
  rw [if_pos (textR_size s a 2 2 rfl)]
  rfl
theorem four_eq (k : Nat) (s : ByteArray) (a : Int) (hs : s.size ≤ 140737488351232) (ha : -9223372036854775808 ≤ a ∧ a ≤ 9223372036854775807) : word_Four.f (k + 1) s a = some (numR s a 4) := by
  unfold word_Four.f word_read_uint32.f
  rw [text_eq k s a 4 hs ha (by omega)]
  simp only [Option.bind_some]
  rw [if_pos (textR_size s a 4 4 rfl)]
  rfl
theorem six_eq (k : Nat) (s : ByteArray) (a : Int) (hs : s.size ≤ 140737488351232) (ha : -9223372036854775808 ≤ a ∧ a ≤ 9223372036854775807) : word_Six.f (k + 1) s a = some (numR s a 6) := by
  unfold word_Six.f word_read_uint64.f
  rw [text_eq k s a 6 hs ha (by omega)]
  simp only [Option.bind_some]
  rw [if_pos (textR_size s a 6 6 rfl)]
  rfl

theorem numR_lt (s : ByteArray) (a : Int) (m : Nat) : 0 ≤ (numR s a m).1 ∧ (numR s a m).1 < ((256 ^ m : Nat) : Int) := by
  have h := Aid.numN_lt (textR s a m).1.data.toList
  rw [len_list] at h
  have h2 := Nat.lt_of_lt_of_le h (Aid.pow_le m (textR_size s a m m rfl))
  refine ⟨Int.natCast_nonneg _, ?_⟩
  show ((Aid.numN (textR s a m).1.data.toList : Nat) : Int) < _
  exact_mod_cast h2

theorem alive_eq : stevedorelaw01_alive.f = some true := rfl

theorem join_text (a b : ByteArray) (i n : Nat) : textR (a ++ b) ((a.size : Int) + i) n = textR b i n := by
  have hz : (a ++ b).size = a.size + b.size := ByteArray.size_append
  by_cases c : b.size < i + n
  · rw [textR_short (by omega) (by rw [hz]; omega), textR_short (by omega) (by omega)]
  · rw [textR_ok (by omega) (by rw [hz]; omega), textR_ok (by omega) (by omega)]
    rw [show ((a.size : Int) + i).toNat = a.size + i by omega, show ((a.size : Int) + i + n).toNat = a.size + (i + n) by omega, show ((i : Nat) : Int).toNat = i by omega, show ((i : Int) + n).toNat = i + n by omega]
    congr 1
    apply ba_ext
    rw [ex_list, ex_list, app_list, ← List.drop_drop, List.drop_left' (len_list a)]
    congr 1
    omega

theorem rest_eq (k : Nat) (s : ByteArray) (i : Nat) (hs : s.size ≤ 140737488351232) (hi : i ≤ 255) :
    word_Rest.f (k + 1) s i = some (if i ≤ s.size then (s.extract i s.size, 0) else (⟨#[]⟩, 10)) := by
  unfold word_Rest.f
  have bi : -9223372036854775808 ≤ ((i : Nat) : Int) ∧ ((i : Nat) : Int) ≤ 9223372036854775807 := by omega
  rw [text_eq k s i 0 hs bi (by omega)]
  simp only [Option.bind_some]
  by_cases c : i ≤ s.size
  · rw [textR_ok (by omega) (by omega), if_pos c]
    simp only [if_true, Int.toNat_natCast]
    rw [if_pos (by omega), if_pos (by omega)]
  · rw [textR_short (by omega) (by omega), if_neg c]
    rfl

theorem of_eq (x : Int) (n : Nat) (hx : 0 ≤ x ∧ x ≤ 18446744073709551615) (hn : n ≤ 8) : word_Of.f x n = some (strOfNums ((Aid.be8 x).drop (8 - n))) := by
  unfold word_Of.f
  rw [if_pos (by omega)]
  have e : (min (max (n : Int) 0) 8).toNat = n := by omega
  rw [e]

theorem cut_of (x : Int) (hx : 0 ≤ x ∧ x ≤ 4294967295) : stevedorelaw01_cut.f (strOfNums ((Aid.be8 x).drop (8 - 4))) 2 = some (strOfNums ((Aid.be8 (x / 65536)).drop (8 - 2))) := by
  have hz : (strOfNums ((Aid.be8 x).drop (8 - 4))).size = 4 := by rw [strOfNums_size]; rfl
  unfold stevedorelaw01_cut.f
  rw [hz, if_neg (by decide), if_pos (by decide), if_pos (by decide)]
  congr 1
  apply ba_ext
  rw [ex_list, strOfNums_data, strOfNums_data]
  have e1 : x / 65536 / 256 % 256 = x / 16777216 % 256 := by omega
  show [UInt8.ofNat (x / 16777216 % 256).toNat, UInt8.ofNat (x / 65536 % 256).toNat] = [UInt8.ofNat (x / 65536 / 256 % 256).toNat, UInt8.ofNat (x / 65536 % 256).toNat]
  rw [e1]

theorem tail_ok (k : Nat) (b : ByteArray) (x : Int) (p q : ByteArray) (g : Int) (hx : 0 ≤ x ∧ x ≤ 4294967295) (hg : g = 0 → (p ++ q = b ∧ b.size ≤ 4096)) :
    stevedorelaw01_WordJoins.j1 (k + 1) b x p g q false = some true := by
  have w : IntKind.u64.wrap x = x := by rw [Aid.wrap_u64]; omega
  have h4 := of_eq x 4 (by omega) (by decide)
  have h2 := of_eq (x / 65536) 2 (by omega) (by decide)
  have hc := cut_of x hx
  simp only [stevedorelaw01_WordJoins.j1, Bool.false_eq_true, if_false, w]
  have e4 : word_Of.f x 4 = some (strOfNums ((Aid.be8 x).drop (8 - 4))) := h4
  have e2 : word_Of.f (x / 65536) 2 = some (strOfNums ((Aid.be8 (x / 65536)).drop (8 - 2))) := h2
  rw [e4, e2]
  simp only [Option.bind_some]
  rw [hc, alive_eq]
  simp only [Option.bind_some, if_true]
  by_cases c : g = 0
  · obtain ⟨hpq, hz⟩ := hg c
    have hs : p.size + q.size ≤ 9223372036854775807 := by
      have : (p ++ q).size = p.size + q.size := ByteArray.size_append
      rw [hpq] at this; omega
    rw [if_pos c, if_pos hs, hpq, if_pos rfl]
  · rw [if_neg c]

theorem WordJoins : stevedorelaw01_WordJoins.Pure := by
  intro a b at_ ha hb wi
  have hi := bounds_u8 wi
  obtain ⟨i, rfl⟩ := Int.eq_ofNat_of_zero_le hi.1
  refine ⟨9, ?_⟩
  unfold stevedorelaw01_WordJoins.f
  by_cases c0 : (a.size : Int) > 4096
  · rw [if_pos c0]; simp only [stevedorelaw01_WordJoins.j0, if_true]; rw [alive_eq]; rfl
  rw [if_neg c0]
  by_cases c1 : (b.size : Int) > 4096
  · rw [decide_eq_true c1]; simp only [stevedorelaw01_WordJoins.j0, if_true]; rw [alive_eq]; rfl
  rw [decide_eq_false c1]
  have w1 : wrap64 ((i : Nat) : Int) = i := by unfold wrap64; omega
  have w2 : wrap64 ((a.size : Int) + i) = (a.size : Int) + i := by unfold wrap64; omega
  have hz : (a ++ b).size = a.size + b.size := ByteArray.size_append
  have bi : -9223372036854775808 ≤ ((i : Nat) : Int) ∧ ((i : Nat) : Int) ≤ 9223372036854775807 := by omega
  have ba : -9223372036854775808 ≤ (a.size : Int) + i ∧ (a.size : Int) + i ≤ 9223372036854775807 := by omega
  have hab : (a ++ b).size ≤ 140737488351232 := by omega
  have hsum : a.size + b.size ≤ 9223372036854775807 := by omega
  have hj : numR (a ++ b) ((a.size : Int) + i) 4 = numR b i 4 := by
    unfold numR; rw [show (4 : Int) = ((4 : Nat) : Int) from rfl, join_text]
  have hx := numR_lt b i 4
  simp only [stevedorelaw01_WordJoins.j0, Bool.false_eq_true, if_false, w1, w2, hsum, if_true]
  rw [four_eq 7 b i hb bi, four_eq 7 (a ++ b) _ hab ba, text_eq 7 b 0 i hb (by omega) bi, rest_eq 7 b i hb (by omega), hj]
  simp only [Option.bind_some, if_true]
  have hx2 : 0 ≤ (numR b i 4).1 ∧ (numR b i 4).1 ≤ 4294967295 := by
    have e : ((256 ^ 4 : Nat) : Int) = 4294967296 := by decide
    rw [e] at hx
    have e4 : ((4 : Nat) : Int) = 4 := rfl
    rw [e4] at hx
    omega
  by_cases c : i ≤ b.size
  · have ht : textR b 0 i = (b.extract 0 i, 0) := by
      rw [textR_ok (by omega) (by omega), show ((0 : Int) + i).toNat = i by omega]; rfl
    have d : decide (((i : Nat) : Int) ≤ (b.size : Int)) = true := decide_eq_true (by omega)
    rw [ht, if_pos c, d]
    simp only [beq_self_eq_true, bne_self_eq_false, Bool.false_eq_true, if_false]
    refine tail_ok 7 b _ _ _ _ hx2 fun _ => ⟨?_, by omega⟩
    apply ba_ext
    rw [app_list, ex_list, ex_list, List.drop_zero, Nat.sub_zero, List.take_of_length_le (l := b.data.toList.drop i) (by simp)]
    exact List.take_append_drop i b.data.toList
  · have ht : textR b 0 i = (⟨#[]⟩, 10) := by
      rw [textR_short (by omega) (by omega)]
    have d : decide (((i : Nat) : Int) ≤ (b.size : Int)) = false := decide_eq_false (by omega)
    rw [ht, if_neg c, d]
    have e10 : ((10 : Int) == 0) = false := by decide
    simp only [e10, bne_self_eq_false, Bool.false_eq_true, if_false]
    exact tail_ok 7 b _ _ _ _ hx2 fun h => absurd h (by decide)

end Go.Proofs.Ytpieabhpgefbnaa.Pure
