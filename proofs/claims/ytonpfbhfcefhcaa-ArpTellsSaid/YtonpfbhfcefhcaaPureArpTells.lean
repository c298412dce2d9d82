/- For every packet and text the law ArpTells of the package stevedorelaw08 answers true: which packets may be, what their bytes are, and which packet bytes are. No condition beyond the kinds and what a text may take up. -/
import Derived.Test.YtonpfbhfcefhcaaPArpTellsx6
import Derived.OpenShut
namespace Go.Proofs.Ytonpfbhfcefhcaa.Pure
open Go.RowKit Go.Proofs.Ytonpfbhfcefhcaa.PArpTells Go.Proofs.YtonpfbhfcefhcaaW.PrintWords Go.Proofs.YtonpfbhfcefhcaaW.PrintLast
set_option linter.unusedVariables false
theorem ba_ext {a b : ByteArray} (h : a.data.toList = b.data.toList) : a = b := by
  cases a; cases b; congr 1; exact Array.ext' h
theorem ex_list (s : ByteArray) (a b : Nat) : (s.extract a b).data.toList = (s.data.toList.drop a).take (b - a) := by
  rw [ByteArray.data_extract, Array.toList_extract, List.extract_eq_take_drop]
theorem app_list (a b : ByteArray) : (a ++ b).data.toList = a.data.toList ++ b.data.toList := by
  rw [ByteArray.data_append, Array.toList_append]
theorem len_list (s : ByteArray) : s.data.toList.length = s.size := by simp

/-- What a text's piece is, and its error. -/
def textR (s : ByteArray) (a n : Int) : ByteArray × Int :=
  if a < 0 ∨ n < 0 then (⟨#[]⟩, 2) else if (s.size : Int) < a ∨ (s.size : Int) - a < n then (⟨#[]⟩, 10) else (s.extract a.toNat (a + n).toNat, 0)

theorem textR_arg {s : ByteArray} {a n : Int} (h : a < 0 ∨ n < 0) : textR s a n = (⟨#[]⟩, 2) := if_pos h
theorem textR_short {s : ByteArray} {a n : Int} (h : ¬ (a < 0 ∨ n < 0)) (h2 : (s.size : Int) < a ∨ (s.size : Int) - a < n) : textR s a n = (⟨#[]⟩, 10) := (if_neg h).trans (if_pos h2)
theorem textR_ok {s : ByteArray} {a n : Int} (h : ¬ (a < 0 ∨ n < 0)) (h2 : ¬ ((s.size : Int) < a ∨ (s.size : Int) - a < n)) : textR s a n = (s.extract a.toNat (a + n).toNat, 0) := (if_neg h).trans (if_neg h2)

theorem textR_size (s : ByteArray) (a n : Int) (m : Nat) (hn : n = m) : (textR s a n).1.size ≤ m := by
  unfold textR
  split
  · exact Nat.zero_le _
  split
  · exact Nat.zero_le _
  · simp only [ByteArray.size_extract]; omega

theorem text_eq (k : Nat) (s : ByteArray) (a n : Int) (hs : s.size ≤ 140737488351232) (ha : -9223372036854775808 ≤ a ∧ a ≤ 9223372036854775807) (hn : -9223372036854775808 ≤ n ∧ n ≤ 9223372036854775807) :
    word_Text.f (k + 1) s a n = some (textR s a n) := by
  unfold word_Text.f
  by_cases c1 : a < 0
  · rw [if_pos c1, textR_arg (Or.inl c1)]; simp [word_Text.j0]
  rw [if_neg c1]
  by_cases c2 : n < 0
  · rw [textR_arg (Or.inr c2), decide_eq_true c2]; simp [word_Text.j0]
  rw [decide_eq_false c2]
  have c12 : ¬ (a < 0 ∨ n < 0) := by omega
  simp only [word_Text.j0, Bool.false_eq_true, if_false]
  by_cases c3 : a > s.size
  · rw [if_pos c3, textR_short c12 (Or.inl c3)]
  rw [if_neg c3]
  have e1 : wrap64 ((s.size : Int) - a) = s.size - a := by unfold wrap64; omega
  rw [e1]
  by_cases c4 : n > s.size - a
  · rw [if_pos c4, textR_short c12 (Or.inr c4)]
  have e2 : wrap64 (a + n) = a + n := by unfold wrap64; omega
  rw [if_neg c4, textR_ok c12 (by omega), e2, if_pos (by omega), if_pos (by omega), if_pos (by omega)]

/-- The number of n bytes at a place, and its error. -/
def numR (s : ByteArray) (a n : Int) : Int × Int := ((Aid.numN (textR s a n).1.data.toList : Int), (textR s a n).2)

theorem two_eq (k : Nat) (s : ByteArray) (a : Int) (hs : s.size ≤ 140737488351232) (ha : -9223372036854775808 ≤ a ∧ a ≤ 9223372036854775807) : word_Two.f (k + 1) s a = some (numR s a 2) := by
  unfold word_Two.f word_read_uint16.f
  rw [text_eq k s a 2 hs ha (by omega)]
  simp only [Option.bind_some]
  rw [if_pos (textR_size s a 2 2 rfl)]
  rfl
theorem four_eq (k : Nat) (s : ByteArray) (a : Int) (hs : s.size ≤ 140737488351232) (ha : -9223372036854775808 ≤ a ∧ a ≤ 9223372036854775807) : word_Four.f (k + 1) s a = some (numR s a 4) := by
  unfold word_Four.f word_read_uint32.f
  rw [text_eq k s a 4 hs ha (by omega)]
  simp only [Option.bind_some]
  rw [if_pos (textR_size s a 4 4 rfl)]
  rfl
theorem six_eq (k : Nat) (s : ByteArray) (a : Int) (hs : s.size ≤ 140737488351232) (ha : -9223372036854775808 ≤ a ∧ a ≤ 9223372036854775807) : word_Six.f (k + 1) s a = some (numR s a 6) := by
  unfold word_Six.f word_read_uint64.f
  rw [text_eq k s a 6 hs ha (by omega)]
  simp only [Option.bind_some]
  rw [if_pos (textR_size s a 6 6 rfl)]
  rfl

theorem numR_lt (s : ByteArray) (a : Int) (m : Nat) : 0 ≤ (numR s a m).1 ∧ (numR s a m).1 < ((256 ^ m : Nat) : Int) := by
  have h := Aid.numN_lt (textR s a m).1.data.toList
  rw [len_list] at h
  have h2 := Nat.lt_of_lt_of_le h (Aid.pow_le m (textR_size s a m m rfl))
  refine ⟨Int.natCast_nonneg _, ?_⟩
  show ((Aid.numN (textR s a m).1.data.toList : Nat) : Int) < _
  exact_mod_cast h2

/-- A number's last bytes. -/
def ofB (x : Int) (n : Nat) : ByteArray := strOfNums ((Aid.be8 x).drop (8 - n))
theorem of_eq (x : Int) (n : Nat) (hx : 0 ≤ x ∧ x ≤ 18446744073709551615) (hn : n ≤ 8) : word_Of.f x n = some (ofB x n) := by
  unfold word_Of.f ofB
  rw [if_pos (by omega)]
  have e : (min (max (n : Int) 0) 8).toNat = n := by omega
  rw [e]
theorem ofB_size (x : Int) (n : Nat) (hn : n ≤ 8) : (ofB x n).size = n := by
  unfold ofB; rw [strOfNums_size]; simp [Aid.be8]; omega
theorem u8nat (y : Int) (h : 0 ≤ y ∧ y ≤ 255) : ((UInt8.ofNat y.toNat).toNat : Int) = y := by
  rw [UInt8.toNat_ofNat']; omega
theorem nums2 (a b : Int) (ha : 0 ≤ a ∧ a ≤ 255) (hb : 0 ≤ b ∧ b ≤ 255) : ((Aid.numN ([a, b].map fun n => UInt8.ofNat n.toNat) : Nat) : Int) = 256 * a + b := by
  have h1 := u8nat a ha
  have h2 := u8nat b hb
  simp only [Aid.numN, List.map_cons, List.map_nil, List.foldl_cons, List.foldl_nil]
  generalize (UInt8.ofNat a.toNat).toNat = x1 at *
  generalize (UInt8.ofNat b.toNat).toNat = x2 at *
  omega
theorem nums4 (a b c d : Int) (ha : 0 ≤ a ∧ a ≤ 255) (hb : 0 ≤ b ∧ b ≤ 255) (hc : 0 ≤ c ∧ c ≤ 255) (hd : 0 ≤ d ∧ d ≤ 255) : ((Aid.numN ([a, b, c, d].map fun n => UInt8.ofNat n.toNat) : Nat) : Int) = 256 * (256 * (256 * a + b) + c) + d := by
  have h1 := u8nat a ha
  have h2 := u8nat b hb
  have h3 := u8nat c hc
  have h4 := u8nat d hd
  simp only [Aid.numN, List.map_cons, List.map_nil, List.foldl_cons, List.foldl_nil]
  generalize (UInt8.ofNat a.toNat).toNat = x1 at *
  generalize (UInt8.ofNat b.toNat).toNat = x2 at *
  generalize (UInt8.ofNat c.toNat).toNat = x3 at *
  generalize (UInt8.ofNat d.toNat).toNat = x4 at *
  omega
theorem nums6 (a b c d e f : Int) (ha : 0 ≤ a ∧ a ≤ 255) (hb : 0 ≤ b ∧ b ≤ 255) (hc : 0 ≤ c ∧ c ≤ 255) (hd : 0 ≤ d ∧ d ≤ 255) (he : 0 ≤ e ∧ e ≤ 255) (hf : 0 ≤ f ∧ f ≤ 255) : ((Aid.numN ([a, b, c, d, e, f].map fun n => UInt8.ofNat n.toNat) : Nat) : Int) = 256 * (256 * (256 * (256 * (256 * a + b) + c) + d) + e) + f := by
  have h1 := u8nat a ha
  have h2 := u8nat b hb
  have h3 := u8nat c hc
  have h4 := u8nat d hd
  have h5 := u8nat e he
  have h6 := u8nat f hf
  simp only [Aid.numN, List.map_cons, List.map_nil, List.foldl_cons, List.foldl_nil]
  generalize (UInt8.ofNat a.toNat).toNat = x1 at *
  generalize (UInt8.ofNat b.toNat).toNat = x2 at *
  generalize (UInt8.ofNat c.toNat).toNat = x3 at *
  generalize (UInt8.ofNat d.toNat).toNat = x4 at *
  generalize (UInt8.ofNat e.toNat).toNat = x5 at *
  generalize (UInt8.ofNat f.toNat).toNat = x6 at *
  omega
theorem m256 (y : Int) : 0 ≤ y % 256 ∧ y % 256 ≤ 255 := by omega
theorem of_num {x : Int} {n : Nat} (hx : 0 ≤ x ∧ x ≤ 18446744073709551615) (hn : n = 1 ∨ n = 2 ∨ n = 4 ∨ n = 6) : ((Aid.numN (ofB x n).data.toList : Nat) : Int) = x % (256 ^ n : Nat) := by
  unfold ofB
  rw [strOfNums_data]
  rcases hn with rfl | rfl | rfl | rfl
  · have h := u8nat (x % 256) (m256 _)
    show ((256 * 0 + (UInt8.ofNat (x % 256).toNat).toNat : Nat) : Int) = x % 256
    omega
  · refine (nums2 (x / 256 % 256) (x % 256) (m256 _) (m256 _)).trans ?_
    show _ = x % 65536
    omega
  · refine (nums4 (x / 16777216 % 256) (x / 65536 % 256) (x / 256 % 256) (x % 256) (m256 _) (m256 _) (m256 _) (m256 _)).trans ?_
    show _ = x % 4294967296
    have d1 : x % 256 = x - 256 * (x / 256) := by omega
    have d2 : x / 256 % 256 = x / 256 - 256 * (x / 65536) := by omega
    have d3 : x / 65536 % 256 = x / 65536 - 256 * (x / 16777216) := by omega
    have d4 : x / 16777216 % 256 = x / 16777216 - 256 * (x / 4294967296) := by omega
    have d5 : x % 4294967296 = x - 4294967296 * (x / 4294967296) := by omega
    rw [d1, d2, d3, d4, d5]
    generalize x / 256 = q1
    generalize x / 65536 = q2
    generalize x / 16777216 = q3
    generalize x / 4294967296 = q4
    omega
  · refine (nums6 (x / 1099511627776 % 256) (x / 4294967296 % 256) (x / 16777216 % 256) (x / 65536 % 256) (x / 256 % 256) (x % 256) (m256 _) (m256 _) (m256 _) (m256 _) (m256 _) (m256 _)).trans ?_
    show _ = x % 281474976710656
    have d1 : x % 256 = x - 256 * (x / 256) := by omega
    have d2 : x / 256 % 256 = x / 256 - 256 * (x / 65536) := by omega
    have d3 : x / 65536 % 256 = x / 65536 - 256 * (x / 16777216) := by omega
    have d4 : x / 16777216 % 256 = x / 16777216 - 256 * (x / 4294967296) := by omega
    have d5 : x / 4294967296 % 256 = x / 4294967296 - 256 * (x / 1099511627776) := by omega
    have d6 : x / 1099511627776 % 256 = x / 1099511627776 - 256 * (x / 281474976710656) := by omega
    have d7 : x % 281474976710656 = x - 281474976710656 * (x / 281474976710656) := by omega
    rw [d1, d2, d3, d4, d5, d6, d7]
    generalize x / 256 = q1
    generalize x / 65536 = q2
    generalize x / 16777216 = q3
    generalize x / 4294967296 = q4
    generalize x / 1099511627776 = q5
    generalize x / 281474976710656 = q6
    omega


theorem alive_eq : stevedorelaw08_alive.f = some true := rfl
theorem list_ba {a b : ByteArray} (h : a = b) : a.toList = b.toList := by rw [h]
theorem ba_list {a b : ByteArray} (h : a.toList = b.toList) : a = b := by
  rw [ByteArray.toList_eq, ByteArray.toList_eq] at h
  exact ba_ext h
def headB : ByteArray := ⟨#[0, 1, 8, 0, 6, 4]⟩
theorem headB_size : headB.size = 6 := rfl
def endB (m ip : Int) : ByteArray := ofB m 6 ++ ofB ip 4
theorem endB_size (m ip : Int) : (endB m ip).size = 10 := by unfold endB; rw [ByteArray.size_append, ofB_size _ _ (by omega), ofB_size _ _ (by omega)]
def encB (op m ip tm tip : Int) : ByteArray := headB ++ ofB op 2 ++ endB m ip ++ endB tm tip
theorem encB_size (op m ip tm tip : Int) : (encB op m ip tm tip).size = 28 := by
  unfold encB; rw [ByteArray.size_append, ByteArray.size_append, ByteArray.size_append, endB_size, endB_size, ofB_size _ _ (by omega), headB_size]
/-- A packet of the right kinds. -/
structure Pk (op m ip tm tip : Int) : Prop where
  op0 : 0 ≤ op
  op1 : op ≤ 65535
  m0 : 0 ≤ m
  m1 : m ≤ 18446744073709551615
  i0 : 0 ≤ ip
  i1 : ip ≤ 4294967295
  t0 : 0 ≤ tm
  t1 : tm ≤ 18446744073709551615
  j0 : 0 ≤ tip
  j1 : tip ≤ 4294967295
theorem right_eq (m ip op tm tip : Int) : arp_packet_right.f m ip op tm tip = some (decide (op = 1 ∨ op = 2)) := by
  unfold arp_packet_right.f
  by_cases h : op = 1
  · rw [if_pos h, decide_eq_true (Or.inl h)]
  · rw [if_neg h]
    congr 1
    rw [Bool.eq_iff_iff, beq_iff_eq, decide_eq_true_iff]
    constructor
    · exact Or.inr
    · intro x; exact x.resolve_left h
theorem wrap64u (x : Int) (h0 : 0 ≤ x) (h1 : x ≤ 4294967295) : IntKind.u64.wrap x = x := by rw [Aid.wrap_u64]; omega
theorem bytes_eq (m ip : Int) (m0 : 0 ≤ m) (m1 : m ≤ 18446744073709551615) (i0 : 0 ≤ ip) (i1 : ip ≤ 4294967295) : arp_end_bytes.f m ip = some (endB m ip) := by
  unfold arp_end_bytes.f
  rw [show (6 : Int) = ((6 : Nat) : Int) from rfl, of_eq m 6 ⟨m0, m1⟩ (by omega), wrap64u ip i0 i1, show (4 : Int) = ((4 : Nat) : Int) from rfl, of_eq ip 4 (by omega) (by omega)]
  simp only [Option.bind_some]
  rw [if_pos (by rw [ofB_size _ _ (by omega), ofB_size _ _ (by omega)]; omega)]
  rfl
theorem j0_eq (k : Nat) (b : Bool) {op m ip tm tip : Int} (h : Pk op m ip tm tip) : arp_Encode.j0 (k + 1) b m ip op tm tip = some (if b = true then (⟨#[]⟩, 2) else (encB op m ip tm tip, 0)) := by
  simp only [arp_Encode.j0]
  cases b with
  | true => rfl
  | false =>
    rw [if_neg (by decide), if_neg (by decide), wrap64u op h.op0 (by have := h.op1; omega), show (2 : Int) = ((2 : Nat) : Int) from rfl, of_eq op 2 ⟨h.op0, by have := h.op1; omega⟩ (by omega)]
    simp only [Option.bind_some]
    rw [if_pos (by rw [ofB_size _ _ (by omega)]; omega), bytes_eq m ip h.m0 h.m1 h.i0 h.i1]
    simp only [Option.bind_some]
    rw [if_pos (by rw [ByteArray.size_append, ofB_size _ _ (by omega), endB_size, show (ByteArray.size ⟨#[0, 1, 8, 0, 6, 4]⟩) = 6 from rfl]; omega), bytes_eq tm tip h.t0 h.t1 h.j0 h.j1]
    simp only [Option.bind_some]
    rw [if_pos (by rw [ByteArray.size_append, ByteArray.size_append, ofB_size _ _ (by omega), endB_size, endB_size, show (ByteArray.size ⟨#[0, 1, 8, 0, 6, 4]⟩) = 6 from rfl]; omega)]
    rfl
/-- May it be? -/
def okB (op m tm : Int) : Bool := decide (op = 1 ∨ op = 2) && (decide (m < 281474976710656) && decide (tm < 281474976710656))
theorem enc_eq (k : Nat) {op m ip tm tip : Int} (h : Pk op m ip tm tip) : arp_Encode.f (k + 1) op m ip tm tip = some (if okB op m tm = true then (encB op m ip tm tip, 0) else (⟨#[]⟩, 2)) := by
  unfold arp_Encode.f arp_packed.f
  simp only [Option.bind_some]
  rw [right_eq]
  simp only [Option.bind_some]
  unfold okB arp_end_whole.f
  cases decide (op = 1 ∨ op = 2) with
  | false => rw [if_neg (by decide), j0_eq k true h]; rfl
  | true =>
    rw [if_pos rfl]
    simp only [Option.bind_some]
    cases decide (m < 281474976710656) with
    | false => rw [if_neg (by decide), j0_eq k true h]; rfl
    | true =>
      rw [if_pos rfl, j0_eq k _ h]
      cases decide (tm < 281474976710656) <;> rfl
theorem pk_of {op m ip tm tip : Int} (u0 : (Lit.int .u16 op).wf = true) (u1 : (Lit.int .u64 m).wf = true) (u2 : (Lit.int .u32 ip).wf = true) (u3 : (Lit.int .u64 tm).wf = true) (u4 : (Lit.int .u32 tip).wf = true) : Pk op m ip tm tip := by
  have h0 := bounds_u16 u0
  have h1 := bounds_u64 u1
  have h2 := bounds_u32 u2
  have h3 := bounds_u64 u3
  have h4 := bounds_u32 u4
  exact ⟨by omega, by omega, by omega, by omega, by omega, by omega, by omega, by omega, by omega, by omega⟩

theorem bt_ex (s : ByteArray) (a n : Nat) (i : Nat) (hi : i < n) (h : a + n ≤ s.size) : bt s ((a : Int) + i) = (((s.extract a (a + n)).data.toList.getD i 0).toNat : Int) := by
  have e : ((a : Int) + i).toNat = a + i := by omega
  unfold bt
  rw [dif_pos (by omega)]
  rw [ex_list]
  have hl : i < ((s.data.toList.drop a).take (a + n - a)).length := by simp; omega
  rw [List.getD_eq_getElem?_getD, List.getElem?_eq_getElem hl]
  simp only [Option.getD_some, List.getElem_take, List.getElem_drop]
  simp only [e]
  rfl

theorem num_loop (s : ByteArray) (a n : Nat) (hs : s.size ≤ 140737488351232) (h : a + n ≤ s.size) (hn : n ≤ 6) (d : Nat) : ∀ (k i : Nat), n - i = d → i ≤ n → d < k →
    stevedoreref01_Num.l0 k s a n ((Aid.numN ((s.extract a (a + n)).data.toList.take i) : Nat) : Int) i = some (((Aid.numN (s.extract a (a + n)).data.toList : Nat) : Int), 0) := by
  have hsz : (s.extract a (a + n)).data.toList.length = n := by rw [ex_list]; simp; omega
  induction d with
  | zero =>
    intro k i hd hi hk
    obtain ⟨k, rfl⟩ : ∃ m, k = m + 1 := ⟨k - 1, by omega⟩
    obtain rfl : i = n := by omega
    simp only [stevedoreref01_Num.l0]
    rw [if_neg (by omega), List.take_of_length_le (by omega)]
  | succ d ih =>
    intro k i hd hi hk
    obtain ⟨k, rfl⟩ : ∃ m, k = m + 1 := ⟨k - 1, by omega⟩
    simp only [stevedoreref01_Num.l0]
    have e1 : wrap64 ((a : Int) + i) = (a : Int) + i := by unfold wrap64; omega
    have e2 : wrap64 ((i : Int) + 1) = ((i + 1 : Nat) : Int) := by unfold wrap64; omega
    have hl := Aid.numN_lt ((s.extract a (a + n)).data.toList.take i)
    rw [List.length_take_of_le (by omega)] at hl
    have hx := Nat.lt_of_lt_of_le hl (Aid.pow_le 5 (show i ≤ 5 by omega))
    have hb := Aid.byte_lt (s.extract a (a + n)).data.toList i
    have hsn := Aid.take_snoc (s.extract a (a + n)) i (by rw [← len_list]; omega)
    rw [if_pos (by omega), e1, if_pos (by omega), if_pos (by omega), e2, bt_ex s a n i (by omega) h]
    have e3 : IntKind.u64.wrap (IntKind.u64.wrap (256 * ((Aid.numN ((s.extract a (a + n)).data.toList.take i) : Nat) : Int)) + IntKind.u64.wrap (((s.extract a (a + n)).data.toList.getD i 0).toNat : Int)) = ((Aid.numN ((s.extract a (a + n)).data.toList.take (i + 1)) : Nat) : Int) := by
      rw [hsn, Aid.numN_snoc, Aid.wrap_u64, Aid.wrap_u64, Aid.wrap_u64]
      omega
    rw [e3]
    exact ih k (i + 1) (by omega) (by omega) (by omega)

theorem num_eq (k : Nat) (s : ByteArray) (a n : Int) (hk : 10 ≤ k) (hs : s.size ≤ 140737488351232) (ha : -9223372036854775808 ≤ a ∧ a ≤ 9223372036854775807) (hn : 0 ≤ n ∧ n ≤ 6) :
    stevedoreref01_Num.f k s a n = some (numR s a n) := by
  obtain ⟨k, rfl⟩ : ∃ m, k = m + 2 := ⟨k - 2, by omega⟩
  unfold stevedoreref01_Num.f numR
  by_cases c1 : a < 0
  · rw [if_pos c1, textR_arg (Or.inl c1)]; simp [stevedoreref01_Num.j0, Aid.numN]
  have c12 : ¬ (a < 0 ∨ n < 0) := by omega
  rw [if_neg c1, decide_eq_false (show ¬ n < 0 by omega)]
  simp only [stevedoreref01_Num.j0, Bool.false_eq_true, if_false]
  by_cases c3 : a > s.size
  · rw [if_pos c3, textR_short c12 (Or.inl c3)]; simp [stevedoreref01_Num.j1, Aid.numN]
  rw [if_neg c3]
  have e1 : wrap64 ((s.size : Int) - a) = s.size - a := by unfold wrap64; omega
  rw [e1]
  by_cases c4 : (s.size : Int) - a < n
  · rw [decide_eq_true c4, textR_short c12 (Or.inr c4)]; simp [stevedoreref01_Num.j1, Aid.numN]
  rw [decide_eq_false c4, textR_ok c12 (by omega)]
  simp only [stevedoreref01_Num.j1, Bool.false_eq_true, if_false]
  obtain ⟨a, rfl⟩ := Int.eq_ofNat_of_zero_le (show 0 ≤ a by omega)
  obtain ⟨n, rfl⟩ := Int.eq_ofNat_of_zero_le hn.1
  have h := num_loop s a n hs (by omega) (by omega) n k 0 (by omega) (by omega) (by omega)
  rw [show ((a : Int) + (n : Int)).toNat = a + n by omega, Int.toNat_natCast]
  exact h



theorem read_eq (k : Nat) (s : ByteArray) (a : Int) (hs : s.size ≤ 140737488351232) (ha : 0 ≤ a ∧ a ≤ 1000) : arp_read.f (k + 1) s a = some ((numR s a 6).1, (numR s (a + 6) 4).1) := by
  unfold arp_read.f
  rw [six_eq k s a hs (by omega), show wrap64 (a + 6) = a + 6 by unfold wrap64; omega, four_eq k s (a + 6) hs (by omega)]
  rfl
/-- What is read of a text. -/
def decR (s : ByteArray) : Int × Int × Int × Int × Int × Int :=
  if (s.size : Int) < 28 then (0, 0, 0, 0, 0, 10) else
  if (s.extract 0 6).toList = [0, 1, 8, 0, 6, 4] then
    (if okB (numR s 6 2).1 0 0 = true then ((numR s 6 2).1, (numR s 8 6).1, (numR s 14 4).1, (numR s 18 6).1, (numR s 24 4).1, 0) else (0, 0, 0, 0, 0, 8))
  else (0, 0, 0, 0, 0, 80)
theorem okB_op (op : Int) : okB op 0 0 = decide (op = 1 ∨ op = 2) := by unfold okB; cases decide (op = 1 ∨ op = 2) <;> rfl
theorem dec_eq (k : Nat) (s : ByteArray) (hs : s.size ≤ 140737488351232) : arp_Decode.f (k + 1) s = some (decR s) := by
  unfold arp_Decode.f decR
  by_cases c : (s.size : Int) < 28
  · rw [if_pos c, if_pos c]
  rw [if_neg c, if_neg c]
  unfold strings_HasPrefix.f stringslite_HasPrefix.f
  have e6 : (ByteArray.size ⟨#[0, 1, 8, 0, 6, 4]⟩ : Int) = 6 := rfl
  rw [e6, if_pos (show (s.size : Int) ≥ 6 by omega), if_pos (by decide), if_pos (show (6 : Int) ≤ s.size by omega)]
  simp only [Option.bind_some]
  have eh : (⟨#[0, 1, 8, 0, 6, 4]⟩ : ByteArray).toList = [0, 1, 8, 0, 6, 4] := by rw [ByteArray.toList_eq]
  rw [eh, show (6 : Int).toNat = 6 from rfl, two_eq k s 6 hs (by omega), read_eq k s 8 hs (by omega), read_eq k s 18 hs (by omega)]
  simp only [Option.bind_some, right_eq, beq_iff_eq, arp_packet_arp.f, okB_op]
  by_cases h : (s.extract 0 6).toList = [0, 1, 8, 0, 6, 4]
  · rw [if_pos h, if_pos h]
    cases decide ((numR s 6 2).1 = 1 ∨ (numR s 6 2).1 = 2) <;> rfl
  · rw [if_neg h, if_neg h]


theorem ofB_nil (x : Int) : ofB x 0 = ⟨#[]⟩ := by unfold ofB; rw [show (Aid.be8 x).drop (8 - 0) = [] from rfl]; rfl
theorem ofB_succ (x : Int) (h0 : 0 ≤ x) (h1 : x ≤ 18446744073709551615) (i : Nat) (hi : i < 6) : strOfNums [x / (256 ^ i : Nat) % 256] ++ ofB x i = ofB x (i + 1) := by
  apply ba_ext
  unfold ofB
  rw [app_list, strOfNums_data, strOfNums_data, strOfNums_data, ← List.map_append]
  congr 1
  match i, hi with
  | 0, _ => simp [Aid.be8]
  | 1, _ => rfl
  | 2, _ => rfl
  | 3, _ => rfl
  | 4, _ => rfl
  | 5, _ => rfl
theorem rof_loop (x : Int) (h0 : 0 ≤ x) (h1 : x ≤ 18446744073709551615) (n : Nat) (hn : n ≤ 6) (d : Nat) : ∀ k i : Nat, n - i = d → i ≤ n → d < k → stevedoreref01_Of.l0 k (x / (256 ^ i : Nat)) n (ofB x i) i = some (ofB x n) := by
  induction d with
  | zero =>
    intro k i hd hi hk
    obtain ⟨k, rfl⟩ : ∃ m, k = m + 1 := ⟨k - 1, by omega⟩
    obtain rfl : i = n := by omega
    simp only [stevedoreref01_Of.l0]
    rw [if_neg (by omega)]
  | succ d ih =>
    intro k i hd hi hk
    obtain ⟨k, rfl⟩ : ∃ m, k = m + 1 := ⟨k - 1, by omega⟩
    simp only [stevedoreref01_Of.l0, Option.bind_some]
    have e2 : wrap64 ((i : Int) + 1) = ((i + 1 : Nat) : Int) := by unfold wrap64; omega
    have hp : (1 : Int) ≤ ((256 ^ i : Nat) : Int) := by have := Nat.pow_pos (n := i) (show 0 < 256 by omega); omega
    have q0 : 0 ≤ x / ((256 ^ i : Nat) : Int) := Int.ediv_nonneg h0 (by omega)
    have q1 : x / ((256 ^ i : Nat) : Int) ≤ 18446744073709551615 := Int.le_trans (Int.ediv_le_self _ h0) h1
    have e3 : IntKind.u64.wrap (Int.tdiv (x / ((256 ^ i : Nat) : Int)) 256) = x / ((256 ^ (i + 1) : Nat) : Int) := by
      rw [Int.tdiv_eq_ediv_of_nonneg q0, Int.ediv_ediv_of_nonneg (by omega), Nat.pow_succ, Int.natCast_mul, Aid.wrap_u64]
      have a0 : 0 ≤ x / (((256 ^ i : Nat) : Int) * ((256 : Nat) : Int)) := Int.ediv_nonneg h0 (by omega)
      have a1 : x / (((256 ^ i : Nat) : Int) * ((256 : Nat) : Int)) ≤ 18446744073709551615 := Int.le_trans (Int.ediv_le_self _ h0) h1
      show x / (((256 ^ i : Nat) : Int) * ((256 : Nat) : Int)) % 18446744073709551616 = _
      omega
    rw [if_pos (by omega), if_pos (by omega), if_pos (by rw [strOfNums_size, ofB_size _ _ (by omega)]; simp; omega), e2, e3, ofB_succ x h0 h1 i (by omega)]
    exact ih k (i + 1) (by omega) (by omega) (by omega)
theorem rof_eq (k : Nat) (x : Int) (n : Nat) (hk : 7 ≤ k) (h0 : 0 ≤ x) (h1 : x ≤ 18446744073709551615) (hn : n ≤ 6) : stevedoreref01_Of.f k x n = some (ofB x n) := by
  unfold stevedoreref01_Of.f
  have h := rof_loop x h0 h1 n hn n k 0 (by omega) (by omega) (by omega)
  rw [ofB_nil] at h
  simpa using h
theorem rj0_eq (k : Nat) (hk : 7 ≤ k) (b : Bool) {op m ip tm tip : Int} (h : Pk op m ip tm tip) : stevedoreref08_Encode.j0 (k + 1) b op m ip tm tip = some (if b = true then (⟨#[]⟩, 2) else (encB op m ip tm tip, 0)) := by
  simp only [stevedoreref08_Encode.j0]
  cases b with
  | true => rfl
  | false =>
    have s6 : (ByteArray.size ⟨#[0, 1, 8, 0, 6, 4]⟩) = 6 := rfl
    rw [if_neg (by decide), if_neg (by decide), wrap64u op h.op0 (by have := h.op1; omega), wrap64u ip h.i0 h.i1, wrap64u tip h.j0 h.j1, show (2 : Int) = ((2 : Nat) : Int) from rfl, show (4 : Int) = ((4 : Nat) : Int) from rfl, show (6 : Int) = ((6 : Nat) : Int) from rfl,
      rof_eq k op 2 hk h.op0 (by have := h.op1; omega) (by omega), rof_eq k m 6 hk h.m0 h.m1 (by omega), rof_eq k ip 4 hk h.i0 (by have := h.i1; omega) (by omega), rof_eq k tm 6 hk h.t0 h.t1 (by omega), rof_eq k tip 4 hk h.j0 (by have := h.j1; omega) (by omega)]
    simp only [Option.bind_some]
    rw [if_pos (by rw [ofB_size _ _ (by omega)]; omega),
      if_pos (by simp only [ByteArray.size_append, ofB_size op 2 (by omega), ofB_size m 6 (by omega), s6]; omega),
      if_pos (by simp only [ByteArray.size_append, ofB_size op 2 (by omega), ofB_size m 6 (by omega), ofB_size ip 4 (by omega), s6]; omega),
      if_pos (by simp only [ByteArray.size_append, ofB_size op 2 (by omega), ofB_size m 6 (by omega), ofB_size ip 4 (by omega), ofB_size tm 6 (by omega), s6]; omega),
      if_pos (by simp only [ByteArray.size_append, ofB_size op 2 (by omega), ofB_size m 6 (by omega), ofB_size ip 4 (by omega), ofB_size tm 6 (by omega), ofB_size tip 4 (by omega), s6]; omega)]
    congr 2
theorem renc_eq (k : Nat) (hk : 7 ≤ k) {op m ip tm tip : Int} (h : Pk op m ip tm tip) : stevedoreref08_Encode.f (k + 1) op m ip tm tip = some (if okB op m tm = true then (encB op m ip tm tip, 0) else (⟨#[]⟩, 2)) := by
  unfold stevedoreref08_Encode.f okB
  simp only [rj0_eq k hk _ h]
  have hm : decide (m < 281474976710656) = !decide (m ≥ 281474976710656) := by rw [← decide_not]; congr 1; exact propext ⟨fun a => by omega, fun a => by omega⟩
  have ht : decide (tm < 281474976710656) = !decide (tm ≥ 281474976710656) := by rw [← decide_not]; congr 1; exact propext ⟨fun a => by omega, fun a => by omega⟩
  rw [hm, ht]
  by_cases c1 : op = 1
  · rw [if_pos c1, decide_eq_true (Or.inl c1)]
    by_cases c : m ≥ 281474976710656
    · rw [if_pos c, decide_eq_true c]; rfl
    · rw [if_neg c, decide_eq_false c]; cases decide (tm ≥ 281474976710656) <;> rfl
  rw [if_neg c1]
  by_cases c2 : op = 2
  · rw [if_pos c2, decide_eq_true (Or.inr c2)]
    by_cases c : m ≥ 281474976710656
    · rw [if_pos c, decide_eq_true c]; rfl
    · rw [if_neg c, decide_eq_false c]; cases decide (tm ≥ 281474976710656) <;> rfl
  rw [if_neg c2, decide_eq_false (by omega)]
  rfl
theorem num_lt (s : ByteArray) (a : Int) (m : Nat) (M : Int) (hM : M = ((256 ^ m : Nat) : Int)) (mi : Int) (hm : mi = m) : 0 ≤ (numR s a mi).1 ∧ (numR s a mi).1 < M := by
  rw [hM, hm]; exact numR_lt s a m
theorem rdec_eq (k : Nat) (hk : 10 ≤ k) (s : ByteArray) (hs : s.size ≤ 140737488351232) : stevedoreref08_Decode.f k s = some (decR s) := by
  unfold stevedoreref08_Decode.f decR
  by_cases c : (s.size : Int) < 28
  · rw [if_pos c, if_pos c]
  rw [if_neg c, if_neg c, if_pos (by decide), if_pos (show (6 : Int) ≤ s.size by omega)]
  by_cases h : (s.extract 0 6).toList = [0, 1, 8, 0, 6, 4]
  · rw [if_pos h, if_pos h, num_eq k s 6 2 hk hs (by omega) (by omega), num_eq k s 8 6 hk hs (by omega) (by omega), num_eq k s 14 4 hk hs (by omega) (by omega), num_eq k s 18 6 hk hs (by omega) (by omega), num_eq k s 24 4 hk hs (by omega) (by omega)]
    have l1 := num_lt s 6 2 65536 (by decide) 2 (by decide)
    have l2 := num_lt s 14 4 4294967296 (by decide) 4 (by decide)
    have l3 := num_lt s 24 4 4294967296 (by decide) 4 (by decide)
    simp only [Option.bind_some]
    rw [okB_op, show IntKind.u16.wrap (numR s 6 2).1 = (numR s 6 2).1 by rw [Aid.wrap_u16]; omega, show (numR s 14 4).1 % 4294967296 = (numR s 14 4).1 by omega, show (numR s 24 4).1 % 4294967296 = (numR s 24 4).1 by omega]
    by_cases c1 : (numR s 6 2).1 = 1
    · rw [if_pos c1, if_pos (by rw [decide_eq_true_iff]; exact Or.inl c1)]
    rw [if_neg c1]
    by_cases c2 : (numR s 6 2).1 = 2
    · rw [if_pos c2, if_pos (by rw [decide_eq_true_iff]; exact Or.inr c2)]
    rw [if_neg c2, if_neg (by rw [decide_eq_true_iff]; omega)]
  · rw [if_neg h, if_neg h]

theorem ArpTells (op m ip tm tip : Int) (s : ByteArray) (hs : s.size ≤ 140737488351232) (h : Pk op m ip tm tip) : stevedorelaw08_ArpTells.f 20 op m ip tm tip s = some true := by
  unfold stevedorelaw08_ArpTells.f
  by_cases c0 : (s.size : Int) > 4096
  · rw [if_pos c0, alive_eq]; rfl
  rw [if_neg c0, enc_eq 19 h, renc_eq 19 (by omega) h, dec_eq 19 s hs, rdec_eq 20 (by omega) s hs, alive_eq]
  simp only [Option.bind_some, beq_self_eq_true, Bool.and_self, if_true]
theorem tells_k (op m ip tm tip : Int) (s : ByteArray) (w : World) (hs : s.size ≤ 140737488351232) (h : Pk op m ip tm tip) :
    Calls Try.prog 3 #[.agg #[.int .u16 op, .int .u64 m, .int .u32 ip, .int .u64 tm, .int .u32 tip], .string s] w fun e w' => e = .returned (.bool true) ∧ Below w.heap.size w w' :=
  stevedorelaw08_ArpTells.calls _ _ _ _ _ _ _ _ _ (ArpTells op m ip tm tip s hs h)

end Go.Proofs.Ytonpfbhfcefhcaa.Pure
