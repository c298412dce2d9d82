/- For every two packets, text and place the law ArpBack of the package stevedorelaw08 answers true: what was written is read, unlike ones are unlike, of what is cut off it is told. No condition beyond the kinds and what a text may take up. -/
import Derived.Test.YtonpfbhfcefhcaaPArpBackx5
import Derived.OpenShut
namespace Go.Proofs.Ytonpfbhfcefhcaa.Pure
open Go.RowKit Go.Proofs.Ytonpfbhfcefhcaa.PArpBack Go.Proofs.YtonpfbhfcefhcaaW.PrintWords Go.Proofs.YtonpfbhfcefhcaaW.PrintLast
set_option linter.unusedVariables false
theorem ba_ext {a b : ByteArray} (h : a.data.toList = b.data.toList) : a = b := by
  cases a; cases b; congr 1; exact Array.ext' h
theorem ex_list (s : ByteArray) (a b : Nat) : (s.extract a b).data.toList = (s.data.toList.drop a).take (b - a) := by
  rw [ByteArray.data_extract, Array.toList_extract, List.extract_eq_take_drop]
theorem app_list (a b : ByteArray) : (a ++ b).data.toList = a.data.toList ++ b.data.toList := by
  rw [ByteArray.data_append, Array.toList_append]
theorem len_list (s : ByteArray) : s.data.toList.length = s.size := by simp

/-- What a text's piece is, and its error. -/
def textR (s : ByteArray) (a n : Int) : ByteArray × Int :=
  if a < 0 ∨ n < 0 then (⟨#[]⟩, 2) else if (s.size : Int) < a ∨ (s.size : Int) - a < n then (⟨#[]⟩, 10) else (s.extract a.toNat (a + n).toNat, 0)

theorem textR_arg {s : ByteArray} {a n : Int} (h : a < 0 ∨ n < 0) : textR s a n = (⟨#[]⟩, 2) := if_pos h
theorem textR_short {s : ByteArray} {a n : Int} (h : ¬ (a < 0 ∨ n < 0)) (h2 : (s.size : Int) < a ∨ (s.size : Int) - a < n) : textR s a n = (⟨#[]⟩, 10) := (if_neg h).trans (if_pos h2)
theorem textR_ok {s : ByteArray} {a n : Int} (h : ¬ (a < 0 ∨ n < 0)) (h2 : ¬ ((s.size : Int) < a ∨ (s.size : Int) - a < n)) : textR s a n = (s.extract a.toNat (a + n).toNat, 0) := (if_neg h).trans (if_neg h2)

theorem textR_size (s : ByteArray) (a n : Int) (m : Nat) (hn : n = m) : (textR s a n).1.size ≤ m := by
  unfold textR
  split
  · exact Nat.zero_le _
  split
  · exact Nat.zero_le _
  · simp only [ByteArray.size_extract]; omega

theorem text_eq (k : Nat) (s : ByteArray) (a n : Int) (hs : s.size ≤ 140737488351232) (ha : -9223372036854775808 ≤ a ∧ a ≤ 9223372036854775807) (hn : -9223372036854775808 ≤ n ∧ n ≤ 9223372036854775807) :
    word_Text.f (k + 1) s a n = some (textR s a n) := by
  unfold word_Text.f
  by_cases c1 : a < 0
  · rw [if_pos c1, textR_arg (Or.inl c1)]; simp [word_Text.j0]
  rw [if_neg c1]
  by_cases c2 : n < 0
  · rw [textR_arg (Or.inr c2), decide_eq_true c2]; simp [word_Text.j0]
  rw [decide_eq_false c2]
  have c12 : ¬ (a < 0 ∨ n < 0) := by omega
  simp only [word_Text.j0, Bool.false_eq_true, if_false]
  by_cases c3 : a > s.size
  · rw [if_pos c3, textR_short c12 (Or.inl c3)]
  rw [if_neg c3]
  have e1 : wrap64 ((s.size : Int) - a) = s.size - a := by unfold wrap64; omega
  rw [e1]
  by_cases c4 : n > s.size - a
  · rw [if_pos c4, textR_short c12 (Or.inr c4)]
  have e2 : wrap64 (a + n) = a + n := by unfold wrap64; omega
  rw [if_neg c4, textR_ok c12 (by omega), e2, if_pos (by omega), if_pos (by omega), if_pos (by omega)]

/-- The number of n bytes at a place, and its error. -/
def numR (s : ByteArray) (a n : Int) : Int × Int := ((Aid.numN (textR s a n).1.data.toList : Int), (textR s a n).2)

theorem two_eq (k : Nat) (s : ByteArray) (a : Int) (hs : s.size ≤ 140737488351232) (ha : -9223372036854775808 ≤ a ∧ a ≤ 9223372036854775807) : word_Two.f (k + 1) s a = some (numR s a 2) := by
  unfold word_Two.f word_read_uint16.f
  rw [text_eq k s a 2 hs ha (by omega)]
  simp only [Option.bind_some]
  rw [if_pos (textR_size s a 2 2 rfl)]
  rfl
theorem four_eq (k : Nat) (s : ByteArray) (a : Int) (hs : s.size ≤ 140737488351232) (ha : -9223372036854775808 ≤ a ∧ a ≤ 9223372036854775807) : word_Four.f (k + 1) s a = some (numR s a 4) := by
  unfold word_Four.f word_read_uint32.f
  rw [text_eq k s a 4 hs ha (by omega)]
  simp only [Option.bind_some]
  rw [if_pos (textR_size s a 4 4 rfl)]
  rfl
theorem six_eq (k : Nat) (s : ByteArray) (a : Int) (hs : s.size ≤ 140737488351232) (ha : -9223372036854775808 ≤ a ∧ a ≤ 9223372036854775807) : word_Six.f (k + 1) s a = some (numR s a 6) := by
  unfold word_Six.f word_read_uint64.f
  rw [text_eq k s a 6 hs ha (by omega)]
  simp only [Option.bind_some]
  rw [if_pos (textR_size s a 6 6 rfl)]
  rfl

theorem numR_lt (s : ByteArray) (a : Int) (m : Nat) : 0 ≤ (numR s a m).1 ∧ (numR s a m).1 < ((256 ^ m : Nat) : Int) := by
  have h := Aid.numN_lt (textR s a m).1.data.toList
  rw [len_list] at h
  have h2 := Nat.lt_of_lt_of_le h (Aid.pow_le m (textR_size s a m m rfl))
  refine ⟨Int.natCast_nonneg _, ?_⟩
  show ((Aid.numN (textR s a m).1.data.toList : Nat) : Int) < _
  exact_mod_cast h2

/-- A number's last bytes. -/
def ofB (x : Int) (n : Nat) : ByteArray := strOfNums ((Aid.be8 x).drop (8 - n))
theorem of_eq (x : Int) (n : Nat) (hx : 0 ≤ x ∧ x ≤ 18446744073709551615) (hn : n ≤ 8) : word_Of.f x n = some (ofB x n) := by
  unfold word_Of.f ofB
  rw [if_pos (by omega)]
  have e : (min (max (n : Int) 0) 8).toNat = n := by omega
  rw [e]
theorem ofB_size (x : Int) (n : Nat) (hn : n ≤ 8) : (ofB x n).size = n := by
  unfold ofB; rw [strOfNums_size]; simp [Aid.be8]; omega
theorem u8nat (y : Int) (h : 0 ≤ y ∧ y ≤ 255) : ((UInt8.ofNat y.toNat).toNat : Int) = y := by
  rw [UInt8.toNat_ofNat']; omega
theorem nums2 (a b : Int) (ha : 0 ≤ a ∧ a ≤ 255) (hb : 0 ≤ b ∧ b ≤ 255) : ((Aid.numN ([a, b].map fun n => UInt8.ofNat n.toNat) : Nat) : Int) = 256 * a + b := by
  have h1 := u8nat a ha
  have h2 := u8nat b hb
  simp only [Aid.numN, List.map_cons, List.map_nil, List.foldl_cons, List.foldl_nil]
  generalize (UInt8.ofNat a.toNat).toNat = x1 at *
  generalize (UInt8.ofNat b.toNat).toNat = x2 at *
  omega
theorem nums4 (a b c d : Int) (ha : 0 ≤ a ∧ a ≤ 255) (hb : 0 ≤ b ∧ b ≤ 255) (hc : 0 ≤ c ∧ c ≤ 255) (hd : 0 ≤ d ∧ d ≤ 255) : ((Aid.numN ([a, b, c, d].map fun n => UInt8.ofNat n.toNat) : Nat) : Int) = 256 * (256 * (256 * a + b) + c) + d := by
  have h1 := u8nat a ha
  have h2 := u8nat b hb
  have h3 := u8nat c hc
  have h4 := u8nat d hd
  simp only [Aid.numN, List.map_cons, List.map_nil, List.foldl_cons, List.foldl_nil]
  generalize (UInt8.ofNat a.toNat).toNat = x1 at *
  generalize (UInt8.ofNat b.toNat).toNat = x2 at *
  generalize (UInt8.ofNat c.toNat).toNat = x3 at *
  generalize (UInt8.ofNat d.toNat).toNat = x4 at *
  omega
theorem nums6 (a b c d e f : Int) (ha : 0 ≤ a ∧ a ≤ 255) (hb : 0 ≤ b ∧ b ≤ 255) (hc : 0 ≤ c ∧ c ≤ 255) (hd : 0 ≤ d ∧ d ≤ 255) (he : 0 ≤ e ∧ e ≤ 255) (hf : 0 ≤ f ∧ f ≤ 255) : ((Aid.numN ([a, b, c, d, e, f].map fun n => UInt8.ofNat n.toNat) : Nat) : Int) = 256 * (256 * (256 * (256 * (256 * a + b) + c) + d) + e) + f := by
  have h1 := u8nat a ha
  have h2 := u8nat b hb
  have h3 := u8nat c hc
  have h4 := u8nat d hd
  have h5 := u8nat e he
  have h6 := u8nat f hf
  simp only [Aid.numN, List.map_cons, List.map_nil, List.foldl_cons, List.foldl_nil]
  generalize (UInt8.ofNat a.toNat).toNat = x1 at *
  generalize (UInt8.ofNat b.toNat).toNat = x2 at *
  generalize (UInt8.ofNat c.toNat).toNat = x3 at *
  generalize (UInt8.ofNat d.toNat).toNat = x4 at *
  generalize (UInt8.ofNat e.toNat).toNat = x5 at *
  generalize (UInt8.ofNat f.toNat).toNat = x6 at *
  omega
theorem m256 (y : Int) : 0 ≤ y % 256 ∧ y % 256 ≤ 255 := by omega
theorem of_num {x : Int} {n : Nat} (hx : 0 ≤ x ∧ x ≤ 18446744073709551615) (hn : n = 1 ∨ n = 2 ∨ n = 4 ∨ n = 6) : ((Aid.numN (ofB x n).data.toList : Nat) : Int) = x % (256 ^ n : Nat) := by
  unfold ofB
  rw [strOfNums_data]
  rcases hn with rfl | rfl | rfl | rfl
  · have h := u8nat (x % 256) (m256 _)
    show ((256 * 0 + (UInt8.ofNat (x % 256).toNat).toNat : Nat) : Int) = x % 256
    omega
  · refine (nums2 (x / 256 % 256) (x % 256) (m256 _) (m256 _)).trans ?_
    show _ = x % 65536
    omega
  · refine (nums4 (x / 16777216 % 256) (x / 65536 % 256) (x / 256 % 256) (x % 256) (m256 _) (m256 _) (m256 _) (m256 _)).trans ?_
    show _ = x % 4294967296
    have d1 : x % 256 = x - 256 * (x / 256) := by omega
    have d2 : x / 256 % 256 = x / 256 - 256 * (x / 65536) := by omega
    have d3 : x / 65536 % 256 = x / 65536 - 256 * (x / 16777216) := by omega
    have d4 : x / 16777216 % 256 = x / 16777216 - 256 * (x / 4294967296) := by omega
    have d5 : x % 4294967296 = x - 4294967296 * (x / 4294967296) := by omega
    rw [d1, d2, d3, d4, d5]
    generalize x / 256 = q1
    generalize x / 65536 = q2
    generalize x / 16777216 = q3
    generalize x / 4294967296 = q4
    omega
  · refine (nums6 (x / 1099511627776 % 256) (x / 4294967296 % 256) (x / 16777216 % 256) (x / 65536 % 256) (x / 256 % 256) (x % 256) (m256 _) (m256 _) (m256 _) (m256 _) (m256 _) (m256 _)).trans ?_
    show _ = x % 281474976710656
    have d1 : x % 256 = x - 256 * (x / 256) := by omega
    have d2 : x / 256 % 256 = x / 256 - 256 * (x / 65536) := by omega
    have d3 : x / 65536 % 256 = x / 65536 - 256 * (x / 16777216) := by omega
    have d4 : x / 16777216 % 256 = x / 16777216 - 256 * (x / 4294967296) := by omega
    have d5 : x / 4294967296 % 256 = x / 4294967296 - 256 * (x / 1099511627776) := by omega
    have d6 : x / 1099511627776 % 256 = x / 1099511627776 - 256 * (x / 281474976710656) := by omega
    have d7 : x % 281474976710656 = x - 281474976710656 * (x / 281474976710656) := by omega
    rw [d1, d2, d3, d4, d5, d6, d7]
    generalize x / 256 = q1
    generalize x / 65536 = q2
    generalize x / 16777216 = q3
    generalize x / 4294967296 = q4
    generalize x / 1099511627776 = q5
    generalize x / 281474976710656 = q6
    omega


theorem alive_eq : stevedorelaw08_alive.f = some true := rfl
theorem list_ba {a b : ByteArray} (h : a = b) : a.toList = b.toList := by rw [h]
theorem ba_list {a b : ByteArray} (h : a.toList = b.toList) : a = b := by
  rw [ByteArray.toList_eq, ByteArray.toList_eq] at h
  exact ba_ext h
def headB : ByteArray := ⟨#[0, 1, 8, 0, 6, 4]⟩
theorem headB_size : headB.size = 6 := rfl
def endB (m ip : Int) : ByteArray := ofB m 6 ++ ofB ip 4
theorem endB_size (m ip : Int) : (endB m ip).size = 10 := by unfold endB; rw [ByteArray.size_append, ofB_size _ _ (by omega), ofB_size _ _ (by omega)]
def encB (op m ip tm tip : Int) : ByteArray := headB ++ ofB op 2 ++ endB m ip ++ endB tm tip
theorem encB_size (op m ip tm tip : Int) : (encB op m ip tm tip).size = 28 := by
  unfold encB; rw [ByteArray.size_append, ByteArray.size_append, ByteArray.size_append, endB_size, endB_size, ofB_size _ _ (by omega), headB_size]
/-- A packet of the right kinds. -/
structure Pk (op m ip tm tip : Int) : Prop where
  op0 : 0 ≤ op
  op1 : op ≤ 65535
  m0 : 0 ≤ m
  m1 : m ≤ 18446744073709551615
  i0 : 0 ≤ ip
  i1 : ip ≤ 4294967295
  t0 : 0 ≤ tm
  t1 : tm ≤ 18446744073709551615
  j0 : 0 ≤ tip
  j1 : tip ≤ 4294967295
theorem right_eq (m ip op tm tip : Int) : arp_packet_right.f m ip op tm tip = some (decide (op = 1 ∨ op = 2)) := by
  unfold arp_packet_right.f
  by_cases h : op = 1
  · rw [if_pos h, decide_eq_true (Or.inl h)]
  · rw [if_neg h]
    congr 1
    rw [Bool.eq_iff_iff, beq_iff_eq, decide_eq_true_iff]
    constructor
    · exact Or.inr
    · intro x; exact x.resolve_left h
theorem wrap64u (x : Int) (h0 : 0 ≤ x) (h1 : x ≤ 4294967295) : IntKind.u64.wrap x = x := by rw [Aid.wrap_u64]; omega
theorem bytes_eq (m ip : Int) (m0 : 0 ≤ m) (m1 : m ≤ 18446744073709551615) (i0 : 0 ≤ ip) (i1 : ip ≤ 4294967295) : arp_end_bytes.f m ip = some (endB m ip) := by
  unfold arp_end_bytes.f
  rw [show (6 : Int) = ((6 : Nat) : Int) from rfl, of_eq m 6 ⟨m0, m1⟩ (by omega), wrap64u ip i0 i1, show (4 : Int) = ((4 : Nat) : Int) from rfl, of_eq ip 4 (by omega) (by omega)]
  simp only [Option.bind_some]
  rw [if_pos (by rw [ofB_size _ _ (by omega), ofB_size _ _ (by omega)]; omega)]
  rfl
theorem j0_eq (k : Nat) (b : Bool) {op m ip tm tip : Int} (h : Pk op m ip tm tip) : arp_Encode.j0 (k + 1) b m ip op tm tip = some (if b = true then (⟨#[]⟩, 2) else (encB op m ip tm tip, 0)) := by
  simp only [arp_Encode.j0]
  cases b with
  | true => rfl
  | false =>
    rw [if_neg (by decide), if_neg (by decide), wrap64u op h.op0 (by have := h.op1; omega), show (2 : Int) = ((2 : Nat) : Int) from rfl, of_eq op 2 ⟨h.op0, by have := h.op1; omega⟩ (by omega)]
    simp only [Option.bind_some]
    rw [if_pos (by rw [ofB_size _ _ (by omega)]; omega), bytes_eq m ip h.m0 h.m1 h.i0 h.i1]
    simp only [Option.bind_some]
    rw [if_pos (by rw [ByteArray.size_append, ofB_size _ _ (by omega), endB_size, show (ByteArray.size ⟨#[0, 1, 8, 0, 6, 4]⟩) = 6 from rfl]; omega), bytes_eq tm tip h.t0 h.t1 h.j0 h.j1]
    simp only [Option.bind_some]
    rw [if_pos (by rw [ByteArray.size_append, ByteArray.size_append, ofB_size _ _ (by omega), endB_size, endB_size, show (ByteArray.size ⟨#[0, 1, 8, 0, 6, 4]⟩) = 6 from rfl]; omega)]
    rfl
/-- May it be? -/
def okB (op m tm : Int) : Bool := decide (op = 1 ∨ op = 2) && (decide (m < 281474976710656) && decide (tm < 281474976710656))
theorem enc_eq (k : Nat) {op m ip tm tip : Int} (h : Pk op m ip tm tip) : arp_Encode.f (k + 1) op m ip tm tip = some (if okB op m tm = true then (encB op m ip tm tip, 0) else (⟨#[]⟩, 2)) := by
  unfold arp_Encode.f arp_packed.f
  simp only [Option.bind_some]
  rw [right_eq]
  simp only [Option.bind_some]
  unfold okB arp_end_whole.f
  cases decide (op = 1 ∨ op = 2) with
  | false => rw [if_neg (by decide), j0_eq k true h]; rfl
  | true =>
    rw [if_pos rfl]
    simp only [Option.bind_some]
    cases decide (m < 281474976710656) with
    | false => rw [if_neg (by decide), j0_eq k true h]; rfl
    | true =>
      rw [if_pos rfl, j0_eq k _ h]
      cases decide (tm < 281474976710656) <;> rfl
theorem pk_of {op m ip tm tip : Int} (u0 : (Lit.int .u16 op).wf = true) (u1 : (Lit.int .u64 m).wf = true) (u2 : (Lit.int .u32 ip).wf = true) (u3 : (Lit.int .u64 tm).wf = true) (u4 : (Lit.int .u32 tip).wf = true) : Pk op m ip tm tip := by
  have h0 := bounds_u16 u0
  have h1 := bounds_u64 u1
  have h2 := bounds_u32 u2
  have h3 := bounds_u64 u3
  have h4 := bounds_u32 u4
  exact ⟨by omega, by omega, by omega, by omega, by omega, by omega, by omega, by omega, by omega, by omega⟩


theorem read_eq (k : Nat) (s : ByteArray) (a : Int) (hs : s.size ≤ 140737488351232) (ha : 0 ≤ a ∧ a ≤ 1000) : arp_read.f (k + 1) s a = some ((numR s a 6).1, (numR s (a + 6) 4).1) := by
  unfold arp_read.f
  rw [six_eq k s a hs (by omega), show wrap64 (a + 6) = a + 6 by unfold wrap64; omega, four_eq k s (a + 6) hs (by omega)]
  rfl
/-- What is read of a text. -/
def decR (s : ByteArray) : Int × Int × Int × Int × Int × Int :=
  if (s.size : Int) < 28 then (0, 0, 0, 0, 0, 10) else
  if (s.extract 0 6).toList = [0, 1, 8, 0, 6, 4] then
    (if okB (numR s 6 2).1 0 0 = true then ((numR s 6 2).1, (numR s 8 6).1, (numR s 14 4).1, (numR s 18 6).1, (numR s 24 4).1, 0) else (0, 0, 0, 0, 0, 8))
  else (0, 0, 0, 0, 0, 80)
theorem okB_op (op : Int) : okB op 0 0 = decide (op = 1 ∨ op = 2) := by unfold okB; cases decide (op = 1 ∨ op = 2) <;> rfl
theorem dec_eq (k : Nat) (s : ByteArray) (hs : s.size ≤ 140737488351232) : arp_Decode.f (k + 1) s = some (decR s) := by
  unfold arp_Decode.f decR
  by_cases c : (s.size : Int) < 28
  · rw [if_pos c, if_pos c]
  rw [if_neg c, if_neg c]
  unfold strings_HasPrefix.f stringslite_HasPrefix.f
  have e6 : (ByteArray.size ⟨#[0, 1, 8, 0, 6, 4]⟩ : Int) = 6 := rfl
  rw [e6, if_pos (show (s.size : Int) ≥ 6 by omega), if_pos (by decide), if_pos (show (6 : Int) ≤ s.size by omega)]
  simp only [Option.bind_some]
  have eh : (⟨#[0, 1, 8, 0, 6, 4]⟩ : ByteArray).toList = [0, 1, 8, 0, 6, 4] := by rw [ByteArray.toList_eq]
  rw [eh, show (6 : Int).toNat = 6 from rfl, two_eq k s 6 hs (by omega), read_eq k s 8 hs (by omega), read_eq k s 18 hs (by omega)]
  simp only [Option.bind_some, right_eq, beq_iff_eq, arp_packet_arp.f, okB_op]
  by_cases h : (s.extract 0 6).toList = [0, 1, 8, 0, 6, 4]
  · rw [if_pos h, if_pos h]
    cases decide ((numR s 6 2).1 = 1 ∨ (numR s 6 2).1 = 2) <;> rfl
  · rw [if_neg h, if_neg h]


/-- The bytes from a place on, as a number. -/
theorem numN_of (s : ByteArray) (a n : Nat) (x : Int) (h : a + n ≤ s.size) (he : s.extract a (a + n) = ofB x n) (hx : 0 ≤ x ∧ x ≤ 18446744073709551615) (hn : n = 1 ∨ n = 2 ∨ n = 4 ∨ n = 6) : (numR s a n).1 = x % (256 ^ n : Nat) := by
  unfold numR
  rw [textR_ok (by omega) (by omega), show ((a : Int) + (n : Int)).toNat = a + n by omega, Int.toNat_natCast, he]
  exact of_num hx hn
/-- A piece that begins behind p and ends ahead of what comes behind m. -/
theorem piece (p m r : ByteArray) (a n : Nat) (hp : p.size = a) (hm : m.size = n) : (p ++ m ++ r).extract a (a + n) = m := by
  apply ba_ext
  have h1 : p.data.toList.length = a := by rw [len_list, hp]
  have h2 : m.data.toList.length = n := by rw [len_list, hm]
  rw [ex_list, app_list, app_list, List.append_assoc, List.drop_left' h1, Nat.add_sub_cancel_left, List.take_left' h2]
theorem app_assoc (a b c : ByteArray) : a ++ b ++ c = a ++ (b ++ c) := by apply ba_ext; simp only [app_list, List.append_assoc]
theorem piece_num (p r : ByteArray) (x : Int) (a n : Nat) (hp : p.size = a) (hx : 0 ≤ x ∧ x ≤ 18446744073709551615) (hn : n = 1 ∨ n = 2 ∨ n = 4 ∨ n = 6) : (numR (p ++ ofB x n ++ r) a n).1 = x % (256 ^ n : Nat) := by
  have hz := ofB_size x n (by omega)
  exact numN_of _ a n x (by rw [ByteArray.size_append, ByteArray.size_append, hz, hp]; omega) (piece p (ofB x n) r a n hp hz) hx hn
/-- What was written is read, whatever stands behind it. -/
theorem dec_enc {op m ip tm tip : Int} (s : ByteArray) (h : Pk op m ip tm tip) (ho : okB op m tm = true) : decR (encB op m ip tm tip ++ s) = (op, m, ip, tm, tip, 0) := by
  unfold okB at ho
  simp only [Bool.and_eq_true, decide_eq_true_iff] at ho
  obtain ⟨o1, o2, o3⟩ := ho
  have g0 := h.op0
  have g1 := h.op1
  have g2 := h.m0
  have g3 := h.i0
  have g4 := h.i1
  have g5 := h.t0
  have g6 := h.j0
  have g7 := h.j1
  have hsz : (encB op m ip tm tip ++ s).size = 28 + s.size := by rw [ByteArray.size_append, encB_size]
  have b2 : ∀ x, (ofB x 2).size = 2 := fun x => ofB_size x 2 (by omega)
  have b4 : ∀ x, (ofB x 4).size = 4 := fun x => ofB_size x 4 (by omega)
  have b6 : ∀ x, (ofB x 6).size = 6 := fun x => ofB_size x 6 (by omega)
  have d0 : (encB op m ip tm tip ++ s).extract 0 6 = headB := by
    have e : encB op m ip tm tip ++ s = ⟨#[]⟩ ++ headB ++ (ofB op 2 ++ endB m ip ++ endB tm tip ++ s) := by unfold encB; apply ba_ext; simp only [app_list, List.append_assoc, List.nil_append]
    rw [e]; exact piece ⟨#[]⟩ headB _ 0 6 rfl rfl
  have d1 : (numR (encB op m ip tm tip ++ s) 6 2).1 = op := by
    have e : encB op m ip tm tip ++ s = headB ++ ofB op 2 ++ (endB m ip ++ endB tm tip ++ s) := by unfold encB; simp only [app_assoc]
    rw [e]
    refine (piece_num headB _ op 6 2 rfl (by omega) (by omega)).trans ?_
    show op % 65536 = op
    omega
  have d2 : (numR (encB op m ip tm tip ++ s) 8 6).1 = m := by
    have e : encB op m ip tm tip ++ s = (headB ++ ofB op 2) ++ ofB m 6 ++ (ofB ip 4 ++ endB tm tip ++ s) := by unfold encB endB; simp only [app_assoc]
    rw [e]
    refine (piece_num (headB ++ ofB op 2) _ m 8 6 (by rw [ByteArray.size_append, b2]; rfl) (by omega) (by omega)).trans ?_
    show m % 281474976710656 = m
    omega
  have d3 : (numR (encB op m ip tm tip ++ s) 14 4).1 = ip := by
    have e : encB op m ip tm tip ++ s = (headB ++ ofB op 2 ++ ofB m 6) ++ ofB ip 4 ++ (endB tm tip ++ s) := by unfold encB endB; simp only [app_assoc]
    rw [e]
    refine (piece_num (headB ++ ofB op 2 ++ ofB m 6) _ ip 14 4 (by rw [ByteArray.size_append, ByteArray.size_append, b2, b6]; rfl) (by omega) (by omega)).trans ?_
    show ip % 4294967296 = ip
    omega
  have d4 : (numR (encB op m ip tm tip ++ s) 18 6).1 = tm := by
    have e : encB op m ip tm tip ++ s = (headB ++ ofB op 2 ++ endB m ip) ++ ofB tm 6 ++ (ofB tip 4 ++ s) := by unfold encB endB; simp only [app_assoc]
    rw [e]
    refine (piece_num (headB ++ ofB op 2 ++ endB m ip) _ tm 18 6 (by rw [ByteArray.size_append, ByteArray.size_append, b2, endB_size]; rfl) (by omega) (by omega)).trans ?_
    show tm % 281474976710656 = tm
    omega
  have d5 : (numR (encB op m ip tm tip ++ s) 24 4).1 = tip := by
    have e : encB op m ip tm tip ++ s = (headB ++ ofB op 2 ++ endB m ip ++ ofB tm 6) ++ ofB tip 4 ++ s := by unfold encB endB; simp only [app_assoc]
    rw [e]
    refine (piece_num (headB ++ ofB op 2 ++ endB m ip ++ ofB tm 6) _ tip 24 4 (by rw [ByteArray.size_append, ByteArray.size_append, ByteArray.size_append, b2, b6, endB_size]; rfl) (by omega) (by omega)).trans ?_
    show tip % 4294967296 = tip
    omega
  unfold decR
  rw [if_neg (by omega), d0, d1, d2, d3, d4, d5, if_pos (by rw [ByteArray.toList_eq]; rfl), okB_op, decide_eq_true o1]
  rfl
theorem app_nil (a : ByteArray) : a ++ ⟨#[]⟩ = a := by apply ba_ext; rw [app_list]; exact List.append_nil _
theorem enc_inj {op m ip tm tip op' m' ip' tm' tip' : Int} (h : Pk op m ip tm tip) (ho : okB op m tm = true) (h' : Pk op' m' ip' tm' tip') (ho' : okB op' m' tm' = true) (he : encB op m ip tm tip = encB op' m' ip' tm' tip') :
    op = op' ∧ m = m' ∧ ip = ip' ∧ tm = tm' ∧ tip = tip' := by
  have e1 := dec_enc ⟨#[]⟩ h ho
  have e2 := dec_enc ⟨#[]⟩ h' ho'
  rw [he, e2] at e1
  simp only [Prod.mk.injEq] at e1
  obtain ⟨a, b, c, d, e, _⟩ := e1
  exact ⟨a.symm, b.symm, c.symm, d.symm, e.symm⟩
theorem dec_short (s : ByteArray) (h : s.size < 28) : decR s = (0, 0, 0, 0, 0, 10) := if_pos (by omega)

theorem num_bd (s : ByteArray) (a : Int) (m : Nat) (M : Int) (hM : M = ((256 ^ m : Nat) : Int)) (mi : Int) (hm : mi = m) : 0 ≤ (numR s a mi).1 ∧ (numR s a mi).1 < M := by
  rw [hM, hm]; exact numR_lt s a m
theorem numN_inj (a b : List UInt8) (hl : a.length = b.length) (h : Aid.numN a = Aid.numN b) : a = b := by
  induction hn : a.length generalizing a b with
  | zero =>
    obtain rfl := List.eq_nil_of_length_eq_zero hn
    exact (List.eq_nil_of_length_eq_zero (by rw [← hl]; rfl)).symm
  | succ n ih =>
    obtain ⟨a', x, rfl⟩ : ∃ m c, a = m ++ [c] := ⟨a.dropLast, a.getLast (by intro e; simp [e] at hn), (List.dropLast_concat_getLast _).symm⟩
    obtain ⟨b', y, rfl⟩ : ∃ m c, b = m ++ [c] := ⟨b.dropLast, b.getLast (by intro e; rw [hl, e] at hn; simp at hn), (List.dropLast_concat_getLast _).symm⟩
    rw [Aid.numN_snoc, Aid.numN_snoc] at h
    have hx := x.toNat_lt
    have hy := y.toNat_lt
    have h1 : Aid.numN a' = Aid.numN b' := by omega
    have h2 : x.toNat = y.toNat := by omega
    rw [ih a' b' (by simpa using hl) h1 (by simpa using hn), UInt8.toNat_inj.1 h2]
/-- What is read is written as it was. -/
theorem ofB_num (s : ByteArray) (a n : Nat) (h : a + n ≤ s.size) (hn : n = 1 ∨ n = 2 ∨ n = 4 ∨ n = 6) : ofB (numR s a n).1 n = s.extract a (a + n) := by
  have hl := numR_lt s a n
  have hp : ((256 ^ n : Nat) : Int) ≤ 281474976710656 := by rcases hn with rfl | rfl | rfl | rfl <;> decide
  have hx : 0 ≤ (numR s a n).1 ∧ (numR s a n).1 ≤ 18446744073709551615 := by omega
  apply ba_ext
  apply numN_inj
  · rw [len_list, len_list, ofB_size _ _ (by omega), ByteArray.size_extract]; omega
  · have e := of_num hx hn
    rw [Int.emod_eq_of_lt hl.1 hl.2] at e
    have e2 : (numR s a n).1 = ((Aid.numN (s.extract a (a + n)).data.toList : Nat) : Int) := by
      unfold numR
      rw [textR_ok (by omega) (by omega), show ((a : Int) + (n : Int)).toNat = a + n by omega, Int.toNat_natCast]
    rw [e2] at e
    rw [← e2] at e
    omega
theorem ex_join (s : ByteArray) (a b c : Nat) (h1 : a ≤ b) (h2 : b ≤ c) (h3 : c ≤ s.size) : s.extract a b ++ s.extract b c = s.extract a c := by
  apply ba_ext
  rw [app_list, ex_list, ex_list, ex_list]
  have e : s.data.toList.drop b = (s.data.toList.drop a).drop (b - a) := by rw [List.drop_drop]; congr 1; omega
  rw [e, show c - a = (b - a) + (c - b) by omega, List.take_add]
theorem enc_dec (s : ByteArray) (op m ip tm tip : Int) (h : decR s = (op, m, ip, tm, tip, 0)) : Pk op m ip tm tip ∧ okB op m tm = true ∧ 28 ≤ s.size ∧ encB op m ip tm tip = s.extract 0 28 := by
  unfold decR at h
  by_cases c : (s.size : Int) < 28
  · rw [if_pos c] at h; simp at h
  rw [if_neg c] at h
  by_cases c1 : (s.extract 0 6).toList = [0, 1, 8, 0, 6, 4]
  · rw [if_pos c1] at h
    have b1 := num_bd s 6 2 65536 (by decide) 2 (by decide)
    have b2 := num_bd s 8 6 281474976710656 (by decide) 6 (by decide)
    have b3 := num_bd s 14 4 4294967296 (by decide) 4 (by decide)
    have b4 := num_bd s 18 6 281474976710656 (by decide) 6 (by decide)
    have b5 := num_bd s 24 4 4294967296 (by decide) 4 (by decide)
    by_cases c2 : okB (numR s 6 2).1 0 0 = true
    · rw [if_pos c2] at h
      simp only [Prod.mk.injEq] at h
      obtain ⟨e1, e2, e3, e4, e5, _⟩ := h
      have f1 : ofB op 2 = s.extract 6 8 := by rw [← e1]; exact ofB_num s 6 2 (by omega) (by omega)
      have f2 : ofB m 6 = s.extract 8 14 := by rw [← e2]; exact ofB_num s 8 6 (by omega) (by omega)
      have f3 : ofB ip 4 = s.extract 14 18 := by rw [← e3]; exact ofB_num s 14 4 (by omega) (by omega)
      have f4 : ofB tm 6 = s.extract 18 24 := by rw [← e4]; exact ofB_num s 18 6 (by omega) (by omega)
      have f5 : ofB tip 4 = s.extract 24 28 := by rw [← e5]; exact ofB_num s 24 4 (by omega) (by omega)
      have f0 : headB = s.extract 0 6 := by apply ba_list; rw [c1, ByteArray.toList_eq]; rfl
      rw [okB_op, decide_eq_true_iff, e1] at c2
      rw [e1] at b1
      rw [e2] at b2
      rw [e3] at b3
      rw [e4] at b4
      rw [e5] at b5
      refine ⟨⟨by omega, by omega, by omega, by omega, by omega, by omega, by omega, by omega, by omega, by omega⟩, ?_, by omega, ?_⟩
      · unfold okB; rw [decide_eq_true c2, decide_eq_true (by omega), decide_eq_true (by omega)]; rfl
      · unfold encB endB
        rw [f0, f1, f2, f3, f4, f5, ex_join s 8 14 18 (by omega) (by omega) (by omega), ex_join s 18 24 28 (by omega) (by omega) (by omega), ex_join s 0 6 8 (by omega) (by omega) (by omega), ex_join s 0 8 18 (by omega) (by omega) (by omega), ex_join s 0 18 28 (by omega) (by omega) (by omega)]
    · rw [if_neg c2] at h; simp at h
  · rw [if_neg c1] at h; simp at h

theorem back_j0 (s : ByteArray) (hs : s.size ≤ 4096) : stevedorelaw08_ArpBack.j0 10 s = some true := by
  simp only [stevedorelaw08_ArpBack.j0]
  rw [dec_eq 8 s (by omega), alive_eq]
  obtain ⟨⟨op, m, ip, tm, tip, e⟩, hd⟩ : ∃ r, decR s = r := ⟨_, rfl⟩
  rw [hd]
  simp only [Option.bind_some]
  by_cases he : e = 0
  · subst he
    obtain ⟨hp, ho, hz, hx⟩ := enc_dec s op m ip tm tip hd
    rw [if_pos rfl, enc_eq 8 hp, ho]
    simp only [if_true, Option.bind_some]
    unfold stevedorelaw08_cut.f
    rw [encB_size, if_neg (by omega), if_pos (by omega), if_pos (by omega)]
    simp only [Option.bind_some]
    rw [show ((28 : Nat) : Int).toNat = 28 from rfl, hx, if_pos rfl]
  · rw [if_neg he]
theorem ArpBack (op m ip tm tip op' m' ip' tm' tip' : Int) (s : ByteArray) (at_ : Int) (hs : s.size ≤ 140737488351232) (h : Pk op m ip tm tip) (h' : Pk op' m' ip' tm' tip') (ha : 0 ≤ at_ ∧ at_ ≤ 255) :
    stevedorelaw08_ArpBack.f 10 op m ip tm tip op' m' ip' tm' tip' s at_ = some true := by
  unfold stevedorelaw08_ArpBack.f
  by_cases c0 : (s.size : Int) > 4096
  · rw [if_pos c0, alive_eq]; rfl
  rw [if_neg c0, enc_eq 9 h, enc_eq 9 h', back_j0 s (by omega)]
  simp only [Option.bind_some]
  by_cases ho : okB op m tm = true
  · rw [if_pos ho]
    have hz := encB_size op m ip tm tip
    have hd := dec_enc s h ho
    have hmx : mx ((28 : Nat) : Int) 1 = 28 := by unfold mx; omega
    have htm : Int.tmod (wrap64 at_) 28 = at_ % 28 := by rw [show wrap64 at_ = at_ by unfold wrap64; omega, Int.tmod_eq_emod_of_nonneg (by omega)]
    simp only [if_true, hz]
    rw [if_pos (by omega), hmx, htm, dec_eq 9 (encB op m ip tm tip ++ s) (by rw [ByteArray.size_append, hz]; omega), hd]
    unfold stevedorelaw08_cut.f
    simp only [Option.bind_some]
    rw [if_neg (by decide), hz, if_neg (by omega), if_pos (by omega), if_pos (by omega)]
    simp only [Option.bind_some]
    rw [dec_eq 9 ((encB op m ip tm tip).extract 0 (at_ % 28).toNat) (by rw [ByteArray.size_extract]; omega), dec_short ((encB op m ip tm tip).extract 0 (at_ % 28).toNat) (by rw [ByteArray.size_extract]; omega)]
    simp only [Option.bind_some, beq_self_eq_true, Bool.not_true, Bool.or_self, Bool.false_eq_true, if_false, if_true]
    by_cases ho' : okB op' m' tm' = true
    · rw [if_pos ho']
      simp only [if_true]
      rw [if_neg]
      by_cases hE : encB op m ip tm tip = encB op' m' ip' tm' tip'
      · obtain ⟨rfl, rfl, rfl, rfl, rfl⟩ := enc_inj h ho h' ho' hE
        simp
      · have n1 : ((encB op m ip tm tip).toList == (encB op' m' ip' tm' tip').toList) = false := by
          rw [beq_eq_false_iff_ne]; exact fun x => hE (ba_list x)
        rw [n1]
        intro hx
        apply hE
        simp at hx
        obtain ⟨rfl, rfl, rfl, rfl, rfl⟩ := hx
        rfl
    · rw [if_neg ho']
      simp
  · rw [if_neg ho]
    simp
theorem back_k (op m ip tm tip op' m' ip' tm' tip' : Int) (s : ByteArray) (at_ : Int) (w : World) (hs : s.size ≤ 140737488351232) (h : Pk op m ip tm tip) (h' : Pk op' m' ip' tm' tip') (ha : 0 ≤ at_ ∧ at_ ≤ 255) :
    Calls Try.prog 5 #[.agg #[.int .u16 op, .int .u64 m, .int .u32 ip, .int .u64 tm, .int .u32 tip], .agg #[.int .u16 op', .int .u64 m', .int .u32 ip', .int .u64 tm', .int .u32 tip'], .string s, .int .u8 at_] w fun e w' => e = .returned (.bool true) ∧ Below w.heap.size w w' :=
  stevedorelaw08_ArpBack.calls _ _ _ _ _ _ _ _ _ _ _ _ _ _ _ (ArpBack op m ip tm tip op' m' ip' tm' tip' s at_ hs h h' ha)

end Go.Proofs.Ytonpfbhfcefhcaa.Pure
