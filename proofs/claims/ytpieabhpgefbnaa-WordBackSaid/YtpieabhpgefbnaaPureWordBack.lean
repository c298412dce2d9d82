/- For every text, place and number the law WordBack of the package stevedorelaw01 answers true: what was set is read, all else is as it was, a number's bytes are its number's. No condition beyond the kinds and what a text may take up. -/
import Derived.Test.YtpieabhpgefbnaaPWordBackx2
import Derived.OpenShut
namespace Go.Proofs.Ytpieabhpgefbnaa.Pure
open Go.RowKit Go.Proofs.Ytpieabhpgefbnaa.PWordBack Go.Proofs.YtpieabhpgefbnaaW.PrintWords Go.Proofs.YtpieabhpgefbnaaW.PrintLast
set_option linter.unusedVariables false
theorem ba_ext {a b : ByteArray} (h : a.data.toList = b.data.toList) : a = b := by
  cases a; cases b; congr 1; exact Array.ext' h
theorem ex_list (s : ByteArray) (a b : Nat) : (s.extract a b).data.toList = (s.data.toList.drop a).take (b - a) := by
  rw [ByteArray.data_extract, Array.toList_extract, List.extract_eq_take_drop]
theorem app_list (a b : ByteArray) : (a ++ b).data.toList = a.data.toList ++ b.data.toList := by
  rw [ByteArray.data_append, Array.toList_append]
theorem len_list (s : ByteArray) : s.data.toList.length = s.size := by simp

/-- What a text's piece is, and its error. -/
def textR (s : ByteArray) (a n : Int) : ByteArray × Int :=
  if a < 0 ∨ n < 0 then (⟨#[]⟩, 2) else if (s.size : Int) < a ∨ (s.size : Int) - a < n then (⟨#[]⟩, 10) else (s.extract a.toNat (a + n).toNat, 0)

theorem textR_arg {s : ByteArray} {a n : Int} (h : a < 0 ∨ n < 0) : textR s a n = (⟨#[]⟩, 2) := if_pos h
theorem textR_short {s : ByteArray} {a n : Int} (h : ¬ (a < 0 ∨ n < 0)) (h2 : (s.size : Int) < a ∨ (s.size : Int) - a < n) : textR s a n = (⟨#[]⟩, 10) := (if_neg h).trans (if_pos h2)
theorem textR_ok {s : ByteArray} {a n : Int} (h : ¬ (a < 0 ∨ n < 0)) (h2 : ¬ ((s.size : Int) < a ∨ (s.size : Int) - a < n)) : textR s a n = (s.extract a.toNat (a + n).toNat, 0) := (if_neg h).trans (if_neg h2)

theorem textR_size (s : ByteArray) (a n : Int) (m : Nat) (hn : n = m) : (textR s a n).1.size ≤ m := by
  unfold textR
  split
  · exact Nat.zero_le _
  split
  · exact Nat.zero_le _
  · simp only [ByteArray.size_extract]; omega

theorem text_eq (k : Nat) (s : ByteArray) (a n : Int) (hs : s.size ≤ 140737488351232) (ha : -9223372036854775808 ≤ a ∧ a ≤ 9223372036854775807) (hn : -9223372036854775808 ≤ n ∧ n ≤ 9223372036854775807) :
    word_Text.f (k + 1) s a n = some (textR s a n) := by
  unfold word_Text.f
  by_cases c1 : a < 0
  · rw [if_pos c1, textR_arg (Or.inl c1)]; simp [word_Text.j0]
  rw [if_neg c1]
  by_cases c2 : n < 0
  · rw [textR_arg (Or.inr c2), decide_eq_true c2]; simp [word_Text.j0]
  rw [decide_eq_false c2]
  have c12 : ¬ (a < 0 ∨ n < 0) := by omega
  simp only [word_Text.j0, Bool.false_eq_true, if_false]
  by_cases c3 : a > s.size
  · rw [if_pos c3, textR_short c12 (Or.inl c3)]
  rw [if_neg c3]
  have e1 : wrap64 ((s.size : Int) - a) = s.size - a := by unfold wrap64; omega
  rw [e1]
  by_cases c4 : n > s.size - a
  · rw [if_pos c4, textR_short c12 (Or.inr c4)]
  have e2 : wrap64 (a + n) = a + n := by unfold wrap64; omega
  rw [if_neg c4, textR_ok c12 (by omega), e2, if_pos (by omega), if_pos (by omega), if_pos (by omega)]

/-- The number of n bytes at a place, and its error. -/
def numR (s : ByteArray) (a n : Int) : Int × Int := ((Aid.numN (textR s a n).1.data.toList : Int), (textR s a n).2)

theorem byte_eq (k : Nat) (s : ByteArray) (a : Int) (hs : s.size ≤ 140737488351232) (ha : -9223372036854775808 ≤ a ∧ a ≤ 9223372036854775807) : word_Byte.f (k + 1) s a = some (numR s a 1) := by
  unfold word_Byte.f word_read_uint8.f
  rw [text_eq k s a 1 hs ha (by omega)]
  simp only [Option.bind_some]
  rw [if_pos (textR_size s a 1 1 rfl)]
  rfl
theorem two_eq (k : Nat) (s : ByteArray) (a : Int) (hs : s.size ≤ 140737488351232) (ha : -9223372036854775808 ≤ a ∧ a ≤ 9223372036854775807) : word_Two.f (k + 1) s a = some (numR s a 2) := by
  unfold word_Two.f word_read_uint16.f
  rw [text_eq k s a 2 hs ha (by omega)]
  simp only [Option.bind_some]
  rw [if_pos (textR_size s a 2 2 rfl)]
  rfl
theorem four_eq (k : Nat) (s : ByteArray) (a : Int) (hs : s.size ≤ 140737488351232) (ha : -9223372036854775808 ≤ a ∧ a ≤ 9223372036854775807) : word_Four.f (k + 1) s a = some (numR s a 4) := by
  unfold word_Four.f word_read_uint32.f
  rw [text_eq k s a 4 hs ha (by omega)]
  simp only [Option.bind_some]
  rw [if_pos (textR_size s a 4 4 rfl)]
  rfl
theorem six_eq (k : Nat) (s : ByteArray) (a : Int) (hs : s.size ≤ 140737488351232) (ha : -9223372036854775808 ≤ a ∧ a ≤ 9223372036854775807) : word_Six.f (k + 1) s a = some (numR s a 6) := by
  unfold word_Six.f word_read_uint64.f
  rw [text_eq k s a 6 hs ha (by omega)]
  simp only [Option.bind_some]
  rw [if_pos (textR_size s a 6 6 rfl)]
  rfl

theorem numR_lt (s : ByteArray) (a : Int) (m : Nat) : 0 ≤ (numR s a m).1 ∧ (numR s a m).1 < ((256 ^ m : Nat) : Int) := by
  have h := Aid.numN_lt (textR s a m).1.data.toList
  rw [len_list] at h
  have h2 := Nat.lt_of_lt_of_le h (Aid.pow_le m (textR_size s a m m rfl))
  refine ⟨Int.natCast_nonneg _, ?_⟩
  show ((Aid.numN (textR s a m).1.data.toList : Nat) : Int) < _
  exact_mod_cast h2

theorem alive_eq : stevedorelaw01_alive.f = some true := rfl

/-- A number's last bytes. -/
def ofB (x : Int) (n : Nat) : ByteArray := strOfNums ((Aid.be8 x).drop (8 - n))
theorem of_eq (x : Int) (n : Nat) (hx : 0 ≤ x ∧ x ≤ 18446744073709551615) (hn : n ≤ 8) : word_Of.f x n = some (ofB x n) := by
  unfold word_Of.f ofB
  rw [if_pos (by omega)]
  have e : (min (max (n : Int) 0) 8).toNat = n := by omega
  rw [e]
theorem ofB_size (x : Int) (n : Nat) (hn : n ≤ 8) : (ofB x n).size = n := by
  unfold ofB; rw [strOfNums_size]; simp [Aid.be8]; omega
theorem u8nat (y : Int) (h : 0 ≤ y ∧ y ≤ 255) : ((UInt8.ofNat y.toNat).toNat : Int) = y := by
  rw [UInt8.toNat_ofNat']; omega
theorem nums2 (a b : Int) (ha : 0 ≤ a ∧ a ≤ 255) (hb : 0 ≤ b ∧ b ≤ 255) : ((Aid.numN ([a, b].map fun n => UInt8.ofNat n.toNat) : Nat) : Int) = 256 * a + b := by
  have h1 := u8nat a ha
  have h2 := u8nat b hb
  simp only [Aid.numN, List.map_cons, List.map_nil, List.foldl_cons, List.foldl_nil]
  generalize (UInt8.ofNat a.toNat).toNat = x1 at *
  generalize (UInt8.ofNat b.toNat).toNat = x2 at *
  omega
theorem nums4 (a b c d : Int) (ha : 0 ≤ a ∧ a ≤ 255) (hb : 0 ≤ b ∧ b ≤ 255) (hc : 0 ≤ c ∧ c ≤ 255) (hd : 0 ≤ d ∧ d ≤ 255) : ((Aid.numN ([a, b, c, d].map fun n => UInt8.ofNat n.toNat) : Nat) : Int) = 256 * (256 * (256 * a + b) + c) + d := by
  have h1 := u8nat a ha
  have h2 := u8nat b hb
  have h3 := u8nat c hc
  have h4 := u8nat d hd
  simp only [Aid.numN, List.map_cons, List.map_nil, List.foldl_cons, List.foldl_nil]
  generalize (UInt8.ofNat a.toNat).toNat = x1 at *
  generalize (UInt8.ofNat b.toNat).toNat = x2 at *
  generalize (UInt8.ofNat c.toNat).toNat = x3 at *
  generalize (UInt8.ofNat d.toNat).toNat = x4 at *
  omega
theorem nums6 (a b c d e f : Int) (ha : 0 ≤ a ∧ a ≤ 255) (hb : 0 ≤ b ∧ b ≤ 255) (hc : 0 ≤ c ∧ c ≤ 255) (hd : 0 ≤ d ∧ d ≤ 255) (he : 0 ≤ e ∧ e ≤ 255) (hf : 0 ≤ f ∧ f ≤ 255) : ((Aid.numN ([a, b, c, d, e, f].map fun n => UInt8.ofNat n.toNat) : Nat) : Int) = 256 * (256 * (256 * (256 * (256 * a + b) + c) + d) + e) + f := by
  have h1 := u8nat a ha
  have h2 := u8nat b hb
  have h3 := u8nat c hc
  have h4 := u8nat d hd
  have h5 := u8nat e he
  have h6 := u8nat f hf
  simp only [Aid.numN, List.map_cons, List.map_nil, List.foldl_cons, List.foldl_nil]
  generalize (UInt8.ofNat a.toNat).toNat = x1 at *
  generalize (UInt8.ofNat b.toNat).toNat = x2 at *
  generalize (UInt8.ofNat c.toNat).toNat = x3 at *
  generalize (UInt8.ofNat d.toNat).toNat = x4 at *
  generalize (UInt8.ofNat e.toNat).toNat = x5 at *
  generalize (UInt8.ofNat f.toNat).toNat = x6 at *
  omega
theorem m256 (y : Int) : 0 ≤ y % 256 ∧ y % 256 ≤ 255 := by omega
theorem of_num {x : Int} {n : Nat} (hx : 0 ≤ x ∧ x ≤ 18446744073709551615) (hn : n = 1 ∨ n = 2 ∨ n = 4 ∨ n = 6) : ((Aid.numN (ofB x n).data.toList : Nat) : Int) = x % (256 ^ n : Nat) := by
  unfold ofB
  rw [strOfNums_data]
  rcases hn with rfl | rfl | rfl | rfl
  · have h := u8nat (x % 256) (m256 _)
    show ((256 * 0 + (UInt8.ofNat (x % 256).toNat).toNat : Nat) : Int) = x % 256
    omega
  · refine (nums2 (x / 256 % 256) (x % 256) (m256 _) (m256 _)).trans ?_
    show _ = x % 65536
    omega
  · refine (nums4 (x / 16777216 % 256) (x / 65536 % 256) (x / 256 % 256) (x % 256) (m256 _) (m256 _) (m256 _) (m256 _)).trans ?_
    show _ = x % 4294967296
    have d1 : x % 256 = x - 256 * (x / 256) := by omega
    have d2 : x / 256 % 256 = x / 256 - 256 * (x / 65536) := by omega
    have d3 : x / 65536 % 256 = x / 65536 - 256 * (x / 16777216) := by omega
    have d4 : x / 16777216 % 256 = x / 16777216 - 256 * (x / 4294967296) := by omega
    have d5 : x % 4294967296 = x - 4294967296 * (x / 4294967296) := by omega
    rw [d1, d2, d3, d4, d5]
    generalize x / 256 = q1
    generalize x / 65536 = q2
    generalize x / 16777216 = q3
    generalize x / 4294967296 = q4
    omega
  · refine (nums6 (x / 1099511627776 % 256) (x / 4294967296 % 256) (x / 16777216 % 256) (x / 65536 % 256) (x / 256 % 256) (x % 256) (m256 _) (m256 _) (m256 _) (m256 _) (m256 _) (m256 _)).trans ?_
    show _ = x % 281474976710656
    have d1 : x % 256 = x - 256 * (x / 256) := by omega
    have d2 : x / 256 % 256 = x / 256 - 256 * (x / 65536) := by omega
    have d3 : x / 65536 % 256 = x / 65536 - 256 * (x / 16777216) := by omega
    have d4 : x / 16777216 % 256 = x / 16777216 - 256 * (x / 4294967296) := by omega
    have d5 : x / 4294967296 % 256 = x / 4294967296 - 256 * (x / 1099511627776) := by omega
    have d6 : x / 1099511627776 % 256 = x / 1099511627776 - 256 * (x / 281474976710656) := by omega
    have d7 : x % 281474976710656 = x - 281474976710656 * (x / 281474976710656) := by omega
    rw [d1, d2, d3, d4, d5, d6, d7]
    generalize x / 256 = q1
    generalize x / 65536 = q2
    generalize x / 16777216 = q3
    generalize x / 4294967296 = q4
    generalize x / 1099511627776 = q5
    generalize x / 281474976710656 = q6
    omega

theorem set_size (s b : ByteArray) (a n : Nat) (hb : b.size = n) (h : a + n ≤ s.size) : (s.extract 0 a ++ b ++ s.extract (a + n) s.size).size = s.size := by
  simp only [ByteArray.size_append, ByteArray.size_extract]; omega
theorem set_list (s b : ByteArray) (a n : Nat) (h : a + n ≤ s.size) : (s.extract 0 a ++ b ++ s.extract (a + n) s.size).data.toList = s.data.toList.take a ++ (b.data.toList ++ s.data.toList.drop (a + n)) := by
  rw [app_list, app_list, ex_list, ex_list, List.drop_zero, Nat.sub_zero, List.take_of_length_le (l := s.data.toList.drop (a + n)) (by simp), List.append_assoc]
theorem set_mid (s b : ByteArray) (a n : Nat) (hb : b.size = n) (h : a + n ≤ s.size) : (s.extract 0 a ++ b ++ s.extract (a + n) s.size).extract a (a + n) = b := by
  apply ba_ext
  have h1 : (s.data.toList.take a).length = a := by rw [List.length_take, len_list]; omega
  have h2 : b.data.toList.length = n := by rw [len_list, hb]
  rw [ex_list, set_list s b a n h, List.drop_left' h1, Nat.add_sub_cancel_left, List.take_left' h2]
theorem set_low (s b : ByteArray) (a n : Nat) (h : a + n ≤ s.size) : (s.extract 0 a ++ b ++ s.extract (a + n) s.size).extract 0 a = s.extract 0 a := by
  apply ba_ext
  have h1 : (s.data.toList.take a).length = a := by rw [List.length_take, len_list]; omega
  rw [ex_list, set_list s b a n h, ex_list, List.drop_zero, List.drop_zero, Nat.sub_zero, List.take_left' h1]
theorem set_high (s b : ByteArray) (a n : Nat) (hb : b.size = n) (h : a + n ≤ s.size) : (s.extract 0 a ++ b ++ s.extract (a + n) s.size).extract (a + n) s.size = s.extract (a + n) s.size := by
  apply ba_ext
  have h1 : (s.data.toList.take a ++ b.data.toList).length = a + n := by rw [List.length_append, List.length_take, len_list, len_list]; omega
  rw [ex_list, set_list s b a n h, ex_list, ← List.append_assoc, List.drop_left' h1]

theorem set_eq (k : Nat) (s b : ByteArray) (a : Int) (n : Nat) (hs : s.size ≤ 140737488351232) (ha : -9223372036854775808 ≤ a ∧ a ≤ 9223372036854775807) (hb : b.size = n) (hn : n ≤ 8) :
    word_Set.f (k + 1) s a b = some (if (textR s a n).2 = 0 then (s.extract 0 a.toNat ++ b ++ s.extract (a.toNat + n) s.size, 0) else (⟨#[]⟩, (textR s a n).2)) := by
  unfold word_Set.f
  rw [text_eq k s a b.size hs ha (by omega), hb]
  simp only [Option.bind_some]
  by_cases c12 : a < 0 ∨ (n : Int) < 0
  · rw [textR_arg c12]; rfl
  by_cases c3 : (s.size : Int) < a ∨ (s.size : Int) - a < n
  · rw [textR_short c12 c3]; rfl
  rw [textR_ok c12 c3]
  obtain ⟨a, rfl⟩ := Int.eq_ofNat_of_zero_le (show 0 ≤ a by omega)
  have e2 : wrap64 ((a : Int) + (n : Int)) = ((a + n : Nat) : Int) := by unfold wrap64; omega
  simp only [if_true, e2, Int.toNat_natCast]
  rw [if_pos (by omega), if_pos (by omega), if_pos (by simp only [ByteArray.size_extract]; omega), if_pos (by omega), if_pos (by omega), if_pos (by simp only [ByteArray.size_append, ByteArray.size_extract]; omega)]

theorem and1 (x : Int) (h : 0 ≤ x ∧ x ≤ 18446744073709551615) : Go.bits .and .u64 x (IntKind.u64.wrap (shl .u64 1 (IntKind.u64.wrap (wrap64 (8 * 1))) - 1)) = x % 256 := by
  have e : IntKind.u64.wrap (shl .u64 1 (IntKind.u64.wrap (wrap64 (8 * 1))) - 1) = 2 ^ 8 - 1 := by decide +kernel
  rw [e, bits_mask .u64 64 (by decide) Aid.wraps_u64 8 (by decide) x h.1 (by omega)]
  rfl
theorem and2 (x : Int) (h : 0 ≤ x ∧ x ≤ 18446744073709551615) : Go.bits .and .u64 x (IntKind.u64.wrap (shl .u64 1 (IntKind.u64.wrap (wrap64 (8 * 2))) - 1)) = x % 65536 := by
  have e : IntKind.u64.wrap (shl .u64 1 (IntKind.u64.wrap (wrap64 (8 * 2))) - 1) = 2 ^ 16 - 1 := by decide +kernel
  rw [e, bits_mask .u64 64 (by decide) Aid.wraps_u64 16 (by decide) x h.1 (by omega)]
  rfl
theorem and4 (x : Int) (h : 0 ≤ x ∧ x ≤ 18446744073709551615) : Go.bits .and .u64 x (IntKind.u64.wrap (shl .u64 1 (IntKind.u64.wrap (wrap64 (8 * 4))) - 1)) = x % 4294967296 := by
  have e : IntKind.u64.wrap (shl .u64 1 (IntKind.u64.wrap (wrap64 (8 * 4))) - 1) = 2 ^ 32 - 1 := by decide +kernel
  rw [e, bits_mask .u64 64 (by decide) Aid.wraps_u64 32 (by decide) x h.1 (by omega)]
  rfl
theorem and6 (x : Int) (h : 0 ≤ x ∧ x ≤ 18446744073709551615) : Go.bits .and .u64 x (IntKind.u64.wrap (shl .u64 1 (IntKind.u64.wrap (wrap64 (8 * 6))) - 1)) = x % 281474976710656 := by
  have e : IntKind.u64.wrap (shl .u64 1 (IntKind.u64.wrap (wrap64 (8 * 6))) - 1) = 2 ^ 48 - 1 := by decide +kernel
  rw [e, bits_mask .u64 64 (by decide) Aid.wraps_u64 48 (by decide) x h.1 (by omega)]
  rfl

theorem j2_step (k : Nat) (s : ByteArray) (a : Nat) (x : Int) (n : Nat) (hs : s.size ≤ 4096) (hx : 0 ≤ x ∧ x ≤ 18446744073709551615) (hn : 1 ≤ n ∧ n ≤ 6) (h : a + n ≤ s.size) (ih : stevedorelaw01_WordBack.l0 (k + 1) s a x (n + 1 : Nat) = some true) :
    stevedorelaw01_WordBack.j2 (k + 2) s a x n (s.extract 0 a ++ ofB x n ++ s.extract (a + n) s.size) false = some true := by
  have hb := ofB_size x n (by omega)
  have hz := set_size s (ofB x n) a n hb h
  have hm := set_mid s (ofB x n) a n hb h
  generalize s.extract 0 a ++ ofB x n ++ s.extract (a + n) s.size = t at *
  have ht : textR t a n = (ofB x n, 0) := by
    rw [textR_ok (by omega) (by omega)]
    rw [show ((a : Int) + (n : Int)).toNat = a + n by omega, Int.toNat_natCast, hm]
  have e1 : wrap64 ((n : Int) + 1) = ((n + 1 : Nat) : Int) := by unfold wrap64; omega
  have np : 0 ≤ IntKind.u64.wrap (wrap64 (8 * (n : Int))) := by rw [Aid.wrap_u64]; omega
  simp only [stevedorelaw01_WordBack.j2, Bool.false_eq_true, if_false, e1, np, if_true, ih]
  have hnum : n = 1 ∨ n = 2 ∨ n = 4 ∨ n = 6 → ((Aid.numN (textR t a n).1.data.toList : Nat) : Int) = x % (256 ^ n : Nat) := fun c => by rw [ht]; exact of_num hx c
  by_cases c1 : n = 1
  · subst c1
    have h1 := hnum (by omega)
    rw [if_pos (by rfl), byte_eq k t a (by omega) (by omega)]
    simp only [Option.bind_some, numR]
    have e3 : ((1 : Nat) : Int) = 1 := rfl
    rw [e3] at h1 ⊢
    rw [h1, if_pos]
    rw [and1 x hx, Aid.wrap_u64]; omega
  rw [if_neg (by omega)]
  by_cases c2 : n = 2
  · subst c2
    have h1 := hnum (by omega)
    rw [if_pos (by rfl), two_eq k t a (by omega) (by omega)]
    simp only [Option.bind_some, numR]
    have e3 : ((2 : Nat) : Int) = 2 := rfl
    rw [e3] at h1 ⊢
    rw [h1, if_pos]
    rw [and2 x hx, Aid.wrap_u64]; omega
  rw [if_neg (by omega)]
  by_cases c4 : n = 4
  · subst c4
    have h1 := hnum (by omega)
    rw [if_pos (by rfl), four_eq k t a (by omega) (by omega)]
    simp only [Option.bind_some, numR]
    have e3 : ((4 : Nat) : Int) = 4 := rfl
    rw [e3] at h1 ⊢
    rw [h1, if_pos]
    rw [and4 x hx, Aid.wrap_u64]; omega
  rw [if_neg (by omega)]
  by_cases c6 : n = 6
  · subst c6
    have h1 := hnum (by omega)
    rw [if_pos (by rfl), six_eq k t a (by omega) (by omega)]
    simp only [Option.bind_some, numR]
    have e3 : ((6 : Nat) : Int) = 6 := rfl
    rw [e3] at h1 ⊢
    rw [h1, if_pos]
    rw [and6 x hx]; omega
  rw [if_neg (by omega)]

theorem l0_all (s : ByteArray) (a : Int) (x : Int) (hs : s.size ≤ 4096) (ha : -9223372036854775808 ≤ a ∧ a ≤ 9223372036854775807) (hx : 0 ≤ x ∧ x ≤ 18446744073709551615) (d : Nat) :
    ∀ k n : Nat, 1 ≤ n → n + d = 7 → 4 * d + 10 ≤ k → stevedorelaw01_WordBack.l0 k s a x n = some true := by
  induction d with
  | zero =>
    intro k n h1 h2 h3
    obtain ⟨k, rfl⟩ : ∃ m, k = m + 1 := ⟨k - 1, by omega⟩
    simp only [stevedorelaw01_WordBack.l0]
    rw [if_neg (by omega), alive_eq]
    rfl
  | succ d ih =>
    intro k n h1 h2 h3
    obtain ⟨k, rfl⟩ : ∃ m, k = m + 4 := ⟨k - 4, by omega⟩
    have hn := ih (k + 1) (n + 1) (by omega) (by omega) (by omega)
    have hn2 := ih (k + 2) (n + 1) (by omega) (by omega) (by omega)
    have hb := ofB_size x n (by omega)
    simp only [stevedorelaw01_WordBack.l0]
    rw [if_pos (by omega), of_eq x n hx (by omega)]
    simp only [Option.bind_some]
    rw [set_eq (k + 2) s (ofB x n) a n (by omega) ha hb (by omega)]
    simp only [Option.bind_some]
    have e1 : wrap64 ((n : Int) + 1) = ((n + 1 : Nat) : Int) := by unfold wrap64; omega
    have skip : ∀ (e : Int) (t : ByteArray), e ≠ 0 → stevedorelaw01_WordBack.j1 (k + 3) s a x n (ofB x n) t e false = some true := by
      intro e t he
      simp only [stevedorelaw01_WordBack.j1, Bool.false_eq_true, if_false]
      rw [if_neg he, e1, hn2]
    by_cases c12 : a < 0 ∨ (n : Int) < 0
    · rw [textR_arg c12, if_neg (show ¬ a ≥ 0 by omega)]
      exact skip 2 _ (by decide)
    by_cases c3 : (s.size : Int) < a ∨ (s.size : Int) - a < n
    · rw [textR_short c12 c3, if_pos (show a ≥ 0 by omega)]
      have e4 : wrap64 ((s.size : Int) - a) = s.size - a := by unfold wrap64; omega
      by_cases c5 : a ≤ s.size
      · rw [if_pos c5, e4, decide_eq_false (show ¬ ((s.size : Int) - a ≥ n) by omega)]
        exact skip 10 _ (by decide)
      · rw [if_neg c5]
        exact skip 10 _ (by decide)
    rw [textR_ok c12 c3]
    obtain ⟨a, rfl⟩ := Int.eq_ofNat_of_zero_le (show 0 ≤ a by omega)
    have hsz : a + n ≤ s.size := by omega
    have bn : -9223372036854775808 ≤ ((n : Nat) : Int) ∧ ((n : Nat) : Int) ≤ 9223372036854775807 := by omega
    have bs : s.size ≤ 140737488351232 := by omega
    have b1 : (0 : Int) ≤ (a : Int) := by omega
    have b2 : (a : Int) ≤ (s.size : Int) := by omega
    have b3 : (0 : Int) ≤ ((a + n : Nat) : Int) := by omega
    have b4 : ((a + n : Nat) : Int) ≤ (s.size : Int) := by omega
    have e4 : wrap64 ((s.size : Int) - (a : Int)) = s.size - a := by unfold wrap64; omega
    rw [if_pos (show (a : Int) ≥ 0 by omega), if_pos (show (a : Int) ≤ s.size by omega), e4, decide_eq_true (show ((s.size : Int) - a ≥ n) by omega)]
    simp only [if_true, Int.toNat_natCast]
    have hz := set_size s (ofB x n) a n hb hsz
    have hm := set_mid s (ofB x n) a n hb hsz
    have hl := set_low s (ofB x n) a n hsz
    have hh := set_high s (ofB x n) a n hb hsz
    have hj := j2_step k s a x n hs hx (by omega) hsz hn
    generalize s.extract 0 a ++ ofB x n ++ s.extract (a + n) s.size = t at *
    have ht : textR t a n = (ofB x n, 0) := by
      rw [textR_ok (by omega) (by omega)]
      rw [show ((a : Int) + (n : Int)).toNat = a + n by omega, Int.toNat_natCast, hm]
    have e5 : wrap64 ((a : Int) + (n : Int)) = ((a + n : Nat) : Int) := by unfold wrap64; omega
    simp only [stevedorelaw01_WordBack.j1]
    rw [text_eq (k + 1) t a n (by rw [hz]; exact bs) ha bn, ht]
    simp only [beq_self_eq_true, bne_self_eq_false, Bool.false_eq_true, if_false, if_true, Option.bind_some, e5, Int.toNat_natCast, hz, hl, hh]
    rw [if_pos b1, if_pos b2, if_pos b2, if_pos b3, if_pos b4, if_pos b4]
    exact hj

theorem WordBack : stevedorelaw01_WordBack.Pure := by
  intro s a x hs wa wx
  have ha := bounds_i64 wa
  have hx := bounds_u64 wx
  refine ⟨50, ?_⟩
  unfold stevedorelaw01_WordBack.f
  by_cases c0 : (s.size : Int) > 4096
  · rw [if_pos c0, alive_eq]; rfl
  · rw [if_neg c0]
    exact l0_all s a x (by omega) (by omega) (by omega) 6 50 1 (by omega) (by omega) (by omega)

end Go.Proofs.Ytpieabhpgefbnaa.Pure
