/- For every text, place and length the law WordReads of the package stevedorelaw01 answers true: which numbers and texts stand in a text, at which place. No condition beyond the kinds and what a text may take up. -/
import Derived.Test.YtpieabhpgefbnaaPWordReadsx3
import Derived.OpenShut
namespace Go.Proofs.Ytpieabhpgefbnaa.Pure
open Go.RowKit Go.Proofs.Ytpieabhpgefbnaa.PWordReads Go.Proofs.YtpieabhpgefbnaaW.PrintWords Go.Proofs.YtpieabhpgefbnaaW.PrintLast
set_option linter.unusedVariables false
theorem ba_ext {a b : ByteArray} (h : a.data.toList = b.data.toList) : a = b := by
  cases a; cases b; congr 1; exact Array.ext' h
theorem ex_list (s : ByteArray) (a b : Nat) : (s.extract a b).data.toList = (s.data.toList.drop a).take (b - a) := by
  rw [ByteArray.data_extract, Array.toList_extract, List.extract_eq_take_drop]
theorem app_list (a b : ByteArray) : (a ++ b).data.toList = a.data.toList ++ b.data.toList := by
  rw [ByteArray.data_append, Array.toList_append]
theorem len_list (s : ByteArray) : s.data.toList.length = s.size := by simp

/-- What a text's piece is, and its error. -/
def textR (s : ByteArray) (a n : Int) : ByteArray × Int :=
  if a < 0 ∨ n < 0 then (⟨#[]⟩, 2) else if (s.size : Int) < a ∨ (s.size : Int) - a < n then (⟨#[]⟩, 10) else (s.extract a.toNat (a + n).toNat, 0)

theorem textR_arg {s : ByteArray} {a n : Int} (h : a < 0 ∨ n < 0) : textR s a n = (⟨#[]⟩, 2) := if_pos h
theorem textR_short {s : ByteArray} {a n : Int} (h : ¬ (a < 0 ∨ n < 0)) (h2 : (s.size : Int) < a ∨ (s.size : Int) - a < n) : textR s a n = (⟨#[]⟩, 10) := (if_neg h).trans (if_pos h2)
theorem textR_ok {s : ByteArray} {a n : Int} (h : ¬ (a < 0 ∨ n < 0)) (h2 : ¬ ((s.size : Int) < a ∨ (s.size : Int) - a < n)) : textR s a n = (s.extract a.toNat (a + n).toNat, 0) := (if_neg h).trans (if_neg h2)

theorem textR_size (s : ByteArray) (a n : Int) (m : Nat) (hn : n = m) : (textR s a n).1.size ≤ m := by
  unfold textR
  split
  · exact Nat.zero_le _
  split
  · exact Nat.zero_le _
  · simp only [ByteArray.size_extract]; omega

theorem text_eq (k : Nat) (s : ByteArray) (a n : Int) (hs : s.size ≤ 140737488351232) (ha : -9223372036854775808 ≤ a ∧ a ≤ 9223372036854775807) (hn : -9223372036854775808 ≤ n ∧ n ≤ 9223372036854775807) :
    word_Text.f (k + 1) s a n = some (textR s a n) := by
  unfold word_Text.f
  by_cases c1 : a < 0
  · rw [if_pos c1, textR_arg (Or.inl c1)]; simp [word_Text.j0]
  rw [if_neg c1]
  by_cases c2 : n < 0
  · rw [textR_arg (Or.inr c2), decide_eq_true c2]; simp [word_Text.j0]
  rw [decide_eq_false c2]
  have c12 : ¬ (a < 0 ∨ n < 0) := by omega
  simp only [word_Text.j0, Bool.false_eq_true, if_false]
  by_cases c3 : a > s.size
  · rw [if_pos c3, textR_short c12 (Or.inl c3)]
  rw [if_neg c3]
  have e1 : wrap64 ((s.size : Int) - a) = s.size - a := by unfold wrap64; omega
  rw [e1]
  by_cases c4 : n > s.size - a
  · rw [if_pos c4, textR_short c12 (Or.inr c4)]
  have e2 : wrap64 (a + n) = a + n := by unfold wrap64; omega
  rw [if_neg c4, textR_ok c12 (by omega), e2, if_pos (by omega), if_pos (by omega), if_pos (by omega)]

/-- The number of n bytes at a place, and its error. -/
def numR (s : ByteArray) (a n : Int) : Int × Int := ((Aid.numN (textR s a n).1.data.toList : Int), (textR s a n).2)

theorem byte_eq (k : Nat) (s : ByteArray) (a : Int) (hs : s.size ≤ 140737488351232) (ha : -9223372036854775808 ≤ a ∧ a ≤ 9223372036854775807) : word_Byte.f (k + 1) s a = some (numR s a 1) := by
  unfold word_Byte.f word_read_uint8.f
  rw [text_eq k s a 1 hs ha (by omega)]
  simp only [Option.bind_some]
  rw [if_pos (textR_size s a 1 1 rfl)]
  rfl
theorem two_eq (k : Nat) (s : ByteArray) (a : Int) (hs : s.size ≤ 140737488351232) (ha : -9223372036854775808 ≤ a ∧ a ≤ 9223372036854775807) : word_Two.f (k + 1) s a = some (numR s a 2) := by
  unfold word_Two.f word_read_uint16.f
  rw [text_eq k s a 2 hs ha (by omega)]
  simp only [Option.bind_some]
  rw [if_pos (textR_size s a 2 2 rfl)]
  rfl
theorem four_eq (k : Nat) (s : ByteArray) (a : Int) (hs : s.size ≤ 140737488351232) (ha : -9223372036854775808 ≤ a ∧ a ≤ 9223372036854775807) : word_Four.f (k + 1) s a = some (numR s a 4) := by
  unfold word_Four.f word_read_uint32.f
  rw [text_eq k s a 4 hs ha (by omega)]
  simp only [Option.bind_some]
  rw [if_pos (textR_size s a 4 4 rfl)]
  rfl
theorem six_eq (k : Nat) (s : ByteArray) (a : Int) (hs : s.size ≤ 140737488351232) (ha : -9223372036854775808 ≤ a ∧ a ≤ 9223372036854775807) : word_Six.f (k + 1) s a = some (numR s a 6) := by
  unfold word_Six.f word_read_uint64.f
  rw [text_eq k s a 6 hs ha (by omega)]
  simp only [Option.bind_some]
  rw [if_pos (textR_size s a 6 6 rfl)]
  rfl

theorem numR_lt (s : ByteArray) (a : Int) (m : Nat) : 0 ≤ (numR s a m).1 ∧ (numR s a m).1 < ((256 ^ m : Nat) : Int) := by
  have h := Aid.numN_lt (textR s a m).1.data.toList
  rw [len_list] at h
  have h2 := Nat.lt_of_lt_of_le h (Aid.pow_le m (textR_size s a m m rfl))
  refine ⟨Int.natCast_nonneg _, ?_⟩
  show ((Aid.numN (textR s a m).1.data.toList : Nat) : Int) < _
  exact_mod_cast h2

theorem bt_ex (s : ByteArray) (a n : Nat) (i : Nat) (hi : i < n) (h : a + n ≤ s.size) : bt s ((a : Int) + i) = (((s.extract a (a + n)).data.toList.getD i 0).toNat : Int) := by
  have e : ((a : Int) + i).toNat = a + i := by omega
  unfold bt
  rw [dif_pos (by omega)]
  rw [ex_list]
  have hl : i < ((s.data.toList.drop a).take (a + n - a)).length := by simp; omega
  rw [List.getD_eq_getElem?_getD, List.getElem?_eq_getElem hl]
  simp only [Option.getD_some, List.getElem_take, List.getElem_drop]
  simp only [e]
  rfl

theorem num_loop (s : ByteArray) (a n : Nat) (hs : s.size ≤ 140737488351232) (h : a + n ≤ s.size) (hn : n ≤ 6) (d : Nat) : ∀ (k i : Nat), n - i = d → i ≤ n → d < k →
    stevedoreref01_Num.l0 k s a n ((Aid.numN ((s.extract a (a + n)).data.toList.take i) : Nat) : Int) i = some (((Aid.numN (s.extract a (a + n)).data.toList : Nat) : Int), 0) := by
  have hsz : (s.extract a (a + n)).data.toList.length = n := by rw [ex_list]; simp; omega
  induction d with
  | zero =>
    intro k i hd hi hk
    obtain ⟨k, rfl⟩ : ∃ m, k = m + 1 := ⟨k - 1, by omega⟩
    obtain rfl : i = n := by omega
    simp only [stevedoreref01_Num.l0]
    rw [if_neg (by omega), List.take_of_length_le (by omega)]
  | succ d ih =>
    intro k i hd hi hk
    obtain ⟨k, rfl⟩ : ∃ m, k = m + 1 := ⟨k - 1, by omega⟩
    simp only [stevedoreref01_Num.l0]
    have e1 : wrap64 ((a : Int) + i) = (a : Int) + i := by unfold wrap64; omega
    have e2 : wrap64 ((i : Int) + 1) = ((i + 1 : Nat) : Int) := by unfold wrap64; omega
    have hl := Aid.numN_lt ((s.extract a (a + n)).data.toList.take i)
    rw [List.length_take_of_le (by omega)] at hl
    have hx := Nat.lt_of_lt_of_le hl (Aid.pow_le 5 (show i ≤ 5 by omega))
    have hb := Aid.byte_lt (s.extract a (a + n)).data.toList i
    have hsn := Aid.take_snoc (s.extract a (a + n)) i (by rw [← len_list]; omega)
    rw [if_pos (by omega), e1, if_pos (by omega), if_pos (by omega), e2, bt_ex s a n i (by omega) h]
    have e3 : IntKind.u64.wrap (IntKind.u64.wrap (256 * ((Aid.numN ((s.extract a (a + n)).data.toList.take i) : Nat) : Int)) + IntKind.u64.wrap (((s.extract a (a + n)).data.toList.getD i 0).toNat : Int)) = ((Aid.numN ((s.extract a (a + n)).data.toList.take (i + 1)) : Nat) : Int) := by
      rw [hsn, Aid.numN_snoc, Aid.wrap_u64, Aid.wrap_u64, Aid.wrap_u64]
      omega
    rw [e3]
    exact ih k (i + 1) (by omega) (by omega) (by omega)

theorem num_eq (k : Nat) (s : ByteArray) (a n : Int) (hk : 10 ≤ k) (hs : s.size ≤ 140737488351232) (ha : -9223372036854775808 ≤ a ∧ a ≤ 9223372036854775807) (hn : 0 ≤ n ∧ n ≤ 6) :
    stevedoreref01_Num.f k s a n = some (numR s a n) := by
  obtain ⟨k, rfl⟩ : ∃ m, k = m + 2 := ⟨k - 2, by omega⟩
  unfold stevedoreref01_Num.f numR
  by_cases c1 : a < 0
  · rw [if_pos c1, textR_arg (Or.inl c1)]; simp [stevedoreref01_Num.j0, Aid.numN]
  have c12 : ¬ (a < 0 ∨ n < 0) := by omega
  rw [if_neg c1, decide_eq_false (show ¬ n < 0 by omega)]
  simp only [stevedoreref01_Num.j0, Bool.false_eq_true, if_false]
  by_cases c3 : a > s.size
  · rw [if_pos c3, textR_short c12 (Or.inl c3)]; simp [stevedoreref01_Num.j1, Aid.numN]
  rw [if_neg c3]
  have e1 : wrap64 ((s.size : Int) - a) = s.size - a := by unfold wrap64; omega
  rw [e1]
  by_cases c4 : (s.size : Int) - a < n
  · rw [decide_eq_true c4, textR_short c12 (Or.inr c4)]; simp [stevedoreref01_Num.j1, Aid.numN]
  rw [decide_eq_false c4, textR_ok c12 (by omega)]
  simp only [stevedoreref01_Num.j1, Bool.false_eq_true, if_false]
  obtain ⟨a, rfl⟩ := Int.eq_ofNat_of_zero_le (show 0 ≤ a by omega)
  obtain ⟨n, rfl⟩ := Int.eq_ofNat_of_zero_le hn.1
  have h := num_loop s a n hs (by omega) (by omega) n k 0 (by omega) (by omega) (by omega)
  rw [show ((a : Int) + (n : Int)).toNat = a + n by omega, Int.toNat_natCast]
  exact h

theorem rtext_eq (k : Nat) (s : ByteArray) (a n : Int) (hk : 10 ≤ k) (hs : s.size ≤ 140737488351232) (ha : -9223372036854775808 ≤ a ∧ a ≤ 9223372036854775807) (hn : -9223372036854775808 ≤ n ∧ n ≤ 9223372036854775807) :
    stevedoreref01_Text.f k s a n = some (textR s a n) := by
  unfold stevedoreref01_Text.f
  rw [num_eq k s a 0 hk hs ha (by omega)]
  obtain ⟨k, rfl⟩ : ∃ m, k = m + 1 := ⟨k - 1, by omega⟩
  simp only [Option.bind_some, stevedoreref01_Text.j0]
  unfold numR
  by_cases c2 : n < 0
  · rw [if_pos c2, textR_arg (Or.inr c2)]; rfl
  rw [if_neg c2]
  by_cases c1 : a < 0
  · rw [textR_arg (Or.inl c1), textR_arg (Or.inl c1)]; rfl
  have c12 : ¬ (a < 0 ∨ n < 0) := by omega
  have c10 : ¬ (a < 0 ∨ (0 : Int) < 0) := by omega
  by_cases c3 : (s.size : Int) < a
  · rw [textR_short c10 (Or.inl c3), textR_short c12 (Or.inl c3)]; rfl
  have e1 : wrap64 ((s.size : Int) - a) = s.size - a := by unfold wrap64; omega
  rw [textR_ok c10 (by omega)]
  simp only [if_true]
  rw [e1]
  by_cases c4 : (s.size : Int) - a < n
  · rw [if_pos c4, textR_short c12 (Or.inr c4)]
  have e2 : wrap64 (a + n) = a + n := by unfold wrap64; omega
  rw [if_neg c4, textR_ok c12 (by omega), e2, if_pos (by omega), if_pos (by omega), if_pos (by omega)]

theorem rest_eq (k : Nat) (s : ByteArray) (a : Int) (hk : 10 ≤ k) (hs : s.size ≤ 140737488351232) (ha : -9223372036854775808 ≤ a ∧ a ≤ 9223372036854775807) :
    ∃ v, word_Rest.f k s a = some v ∧ stevedoreref01_Rest.f k s a = some v := by
  unfold word_Rest.f stevedoreref01_Rest.f
  rw [num_eq k s a 0 hk hs ha (by omega)]
  obtain ⟨k, rfl⟩ : ∃ m, k = m + 1 := ⟨k - 1, by omega⟩
  rw [text_eq k s a 0 hs ha (by omega)]
  simp only [Option.bind_some, numR]
  by_cases c : (textR s a 0).2 = 0
  · rw [if_pos c]
    have h : 0 ≤ a ∧ a ≤ s.size := by
      unfold textR at c
      split at c
      · cases c
      · split at c
        · cases c
        · omega
    rw [if_pos h.1, if_pos h.2]
    exact ⟨_, rfl, rfl⟩
  · rw [if_neg c]
    exact ⟨_, rfl, rfl⟩

theorem alive_eq : stevedorelaw01_alive.f = some true := rfl

theorem WordReads : stevedorelaw01_WordReads.Pure := by
  intro s a n hs wa wn
  have ha := bounds_i64 wa
  have hn := bounds_i64 wn
  refine ⟨22, ?_⟩
  unfold stevedorelaw01_WordReads.f
  by_cases c0 : (s.size : Int) > 4096
  · rw [if_pos c0, alive_eq]; rfl
  rw [if_neg c0, byte_eq 21 s a hs (by omega), two_eq 21 s a hs (by omega), num_eq 22 s a 1 (by omega) hs (by omega) (by omega), num_eq 22 s a 2 (by omega) hs (by omega) (by omega)]
  have l1 := numR_lt s a 1
  have l2 := numR_lt s a 2
  have l4 := numR_lt s a 4
  have w1 : IntKind.u64.wrap (numR s a 1).1 = (numR s a 1).1 := by rw [Aid.wrap_u64]; simp only [Int.natCast_one] at l1; omega
  have w2 : IntKind.u64.wrap (numR s a 2).1 = (numR s a 2).1 := by rw [Aid.wrap_u64]; have : ((2 : Nat) : Int) = 2 := rfl; rw [this] at l2; omega
  have w4 : IntKind.u64.wrap (numR s a 4).1 = (numR s a 4).1 := by rw [Aid.wrap_u64]; have : ((4 : Nat) : Int) = 4 := rfl; rw [this] at l4; omega
  obtain ⟨v, hv, hv'⟩ := rest_eq 20 s a (by omega) hs (by omega)
  simp only [Option.bind_some, w1, w2, if_true]
  simp only [bne_self_eq_false, stevedorelaw01_WordReads.j0, Bool.false_eq_true, if_false]
  rw [four_eq 20 s a hs (by omega), six_eq 20 s a hs (by omega), num_eq 21 s a 4 (by omega) hs (by omega) (by omega), num_eq 21 s a 6 (by omega) hs (by omega) (by omega)]
  simp only [Option.bind_some, w4, if_true, bne_self_eq_false, stevedorelaw01_WordReads.j1, Bool.false_eq_true, if_false]
  rw [text_eq 19 s a n hs (by omega) (by omega), rtext_eq 20 s a n (by omega) hs (by omega) (by omega), hv, hv', alive_eq]
  simp only [Option.bind_some, if_true]

end Go.Proofs.Ytpieabhpgefbnaa.Pure
