/- For every two cards and addresses the law ArpTalk of the package stevedorelaw08 answers true: who asks is told what it asked for, by who has it. No condition beyond the kinds. -/
import Derived.Test.YtonpfbhfcefhcaaPArpTalkx4
import Derived.OpenShut
namespace Go.Proofs.Ytonpfbhfcefhcaa.Pure
open Go.RowKit Go.Proofs.Ytonpfbhfcefhcaa.PArpTalk Go.Proofs.YtonpfbhfcefhcaaW.PrintWords Go.Proofs.YtonpfbhfcefhcaaW.PrintLast
set_option linter.unusedVariables false
theorem ba_ext {a b : ByteArray} (h : a.data.toList = b.data.toList) : a = b := by
  cases a; cases b; congr 1; exact Array.ext' h
theorem ex_list (s : ByteArray) (a b : Nat) : (s.extract a b).data.toList = (s.data.toList.drop a).take (b - a) := by
  rw [ByteArray.data_extract, Array.toList_extract, List.extract_eq_take_drop]
theorem app_list (a b : ByteArray) : (a ++ b).data.toList = a.data.toList ++ b.data.toList := by
  rw [ByteArray.data_append, Array.toList_append]
theorem len_list (s : ByteArray) : s.data.toList.length = s.size := by simp

/-- What a text's piece is, and its error. -/
def textR (s : ByteArray) (a n : Int) : ByteArray × Int :=
  if a < 0 ∨ n < 0 then (⟨#[]⟩, 2) else if (s.size : Int) < a ∨ (s.size : Int) - a < n then (⟨#[]⟩, 10) else (s.extract a.toNat (a + n).toNat, 0)

theorem textR_arg {s : ByteArray} {a n : Int} (h : a < 0 ∨ n < 0) : textR s a n = (⟨#[]⟩, 2) := if_pos h
theorem textR_short {s : ByteArray} {a n : Int} (h : ¬ (a < 0 ∨ n < 0)) (h2 : (s.size : Int) < a ∨ (s.size : Int) - a < n) : textR s a n = (⟨#[]⟩, 10) := (if_neg h).trans (if_pos h2)
theorem textR_ok {s : ByteArray} {a n : Int} (h : ¬ (a < 0 ∨ n < 0)) (h2 : ¬ ((s.size : Int) < a ∨ (s.size : Int) - a < n)) : textR s a n = (s.extract a.toNat (a + n).toNat, 0) := (if_neg h).trans (if_neg h2)

theorem textR_size (s : ByteArray) (a n : Int) (m : Nat) (hn : n = m) : (textR s a n).1.size ≤ m := by
  unfold textR
  split
  · exact Nat.zero_le _
  split
  · exact Nat.zero_le _
  · simp only [ByteArray.size_extract]; omega

theorem text_eq (k : Nat) (s : ByteArray) (a n : Int) (hs : s.size ≤ 140737488351232) (ha : -9223372036854775808 ≤ a ∧ a ≤ 9223372036854775807) (hn : -9223372036854775808 ≤ n ∧ n ≤ 9223372036854775807) :
    word_Text.f (k + 1) s a n = some (textR s a n) := by
  unfold word_Text.f
  by_cases c1 : a < 0
  · rw [if_pos c1, textR_arg (Or.inl c1)]; simp [word_Text.j0]
  rw [if_neg c1]
  by_cases c2 : n < 0
  · rw [textR_arg (Or.inr c2), decide_eq_true c2]; simp [word_Text.j0]
  rw [decide_eq_false c2]
  have c12 : ¬ (a < 0 ∨ n < 0) := by omega
  simp only [word_Text.j0, Bool.false_eq_true, if_false]
  by_cases c3 : a > s.size
  · rw [if_pos c3, textR_short c12 (Or.inl c3)]
  rw [if_neg c3]
  have e1 : wrap64 ((s.size : Int) - a) = s.size - a := by unfold wrap64; omega
  rw [e1]
  by_cases c4 : n > s.size - a
  · rw [if_pos c4, textR_short c12 (Or.inr c4)]
  have e2 : wrap64 (a + n) = a + n := by unfold wrap64; omega
  rw [if_neg c4, textR_ok c12 (by omega), e2, if_pos (by omega), if_pos (by omega), if_pos (by omega)]

/-- The number of n bytes at a place, and its error. -/
def numR (s : ByteArray) (a n : Int) : Int × Int := ((Aid.numN (textR s a n).1.data.toList : Int), (textR s a n).2)

theorem two_eq (k : Nat) (s : ByteArray) (a : Int) (hs : s.size ≤ 140737488351232) (ha : -9223372036854775808 ≤ a ∧ a ≤ 9223372036854775807) : word_Two.f (k + 1) s a = some (numR s a 2) := by
  unfold word_Two.f word_read_uint16.f
  rw [text_eq k s a 2 hs ha (by omega)]
  simp only [Option.bind_some]
  rw [if_pos (textR_size s a 2 2 rfl)]
  rfl
theorem four_eq (k : Nat) (s : ByteArray) (a : Int) (hs : s.size ≤ 140737488351232) (ha : -9223372036854775808 ≤ a ∧ a ≤ 9223372036854775807) : word_Four.f (k + 1) s a = some (numR s a 4) := by
  unfold word_Four.f word_read_uint32.f
  rw [text_eq k s a 4 hs ha (by omega)]
  simp only [Option.bind_some]
  rw [if_pos (textR_size s a 4 4 rfl)]
  rfl
theorem six_eq (k : Nat) (s : ByteArray) (a : Int) (hs : s.size ≤ 140737488351232) (ha : -9223372036854775808 ≤ a ∧ a ≤ 9223372036854775807) : word_Six.f (k + 1) s a = some (numR s a 6) := by
  unfold word_Six.f word_read_uint64.f
  rw [text_eq k s a 6 hs ha (by omega)]
  simp only [Option.bind_some]
  rw [if_pos (textR_size s a 6 6 rfl)]
  rfl

theorem numR_lt (s : ByteArray) (a : Int) (m : Nat) : 0 ≤ (numR s a m).1 ∧ (numR s a m).1 < ((256 ^ m : Nat) : Int) := by
  have h := Aid.numN_lt (textR s a m).1.data.toList
  rw [len_list] at h
  have h2 := Nat.lt_of_lt_of_le h (Aid.pow_le m (textR_size s a m m rfl))
  refine ⟨Int.natCast_nonneg _, ?_⟩
  show ((Aid.numN (textR s a m).1.data.toList : Nat) : Int) < _
  exact_mod_cast h2

/-- A number's last bytes. -/
def ofB (x : Int) (n : Nat) : ByteArray := strOfNums ((Aid.be8 x).drop (8 - n))
theorem of_eq (x : Int) (n : Nat) (hx : 0 ≤ x ∧ x ≤ 18446744073709551615) (hn : n ≤ 8) : word_Of.f x n = some (ofB x n) := by
  unfold word_Of.f ofB
  rw [if_pos (by omega)]
  have e : (min (max (n : Int) 0) 8).toNat = n := by omega
  rw [e]
theorem ofB_size (x : Int) (n : Nat) (hn : n ≤ 8) : (ofB x n).size = n := by
  unfold ofB; rw [strOfNums_size]; simp [Aid.be8]; omega
theorem u8nat (y : Int) (h : 0 ≤ y ∧ y ≤ 255) : ((UInt8.ofNat y.toNat).toNat : Int) = y := by
  rw [UInt8.toNat_ofNat']; omega
theorem nums2 (a b : Int) (ha : 0 ≤ a ∧ a ≤ 255) (hb : 0 ≤ b ∧ b ≤ 255) : ((Aid.numN ([a, b].map fun n => UInt8.ofNat n.toNat) : Nat) : Int) = 256 * a + b := by
  have h1 := u8nat a ha
  have h2 := u8nat b hb
  simp only [Aid.numN, List.map_cons, List.map_nil, List.foldl_cons, List.foldl_nil]
  generalize (UInt8.ofNat a.toNat).toNat = x1 at *
  generalize (UInt8.ofNat b.toNat).toNat = x2 at *
  omega
theorem nums4 (a b c d : Int) (ha : 0 ≤ a ∧ a ≤ 255) (hb : 0 ≤ b ∧ b ≤ 255) (hc : 0 ≤ c ∧ c ≤ 255) (hd : 0 ≤ d ∧ d ≤ 255) : ((Aid.numN ([a, b, c, d].map fun n => UInt8.ofNat n.toNat) : Nat) : Int) = 256 * (256 * (256 * a + b) + c) + d := by
  have h1 := u8nat a ha
  have h2 := u8nat b hb
  have h3 := u8nat c hc
  have h4 := u8nat d hd
  simp only [Aid.numN, List.map_cons, List.map_nil, List.foldl_cons, List.foldl_nil]
  generalize (UInt8.ofNat a.toNat).toNat = x1 at *
  generalize (UInt8.ofNat b.toNat).toNat = x2 at *
  generalize (UInt8.ofNat c.toNat).toNat = x3 at *
  generalize (UInt8.ofNat d.toNat).toNat = x4 at *
  omega
theorem nums6 (a b c d e f : Int) (ha : 0 ≤ a ∧ a ≤ 255) (hb : 0 ≤ b ∧ b ≤ 255) (hc : 0 ≤ c ∧ c ≤ 255) (hd : 0 ≤ d ∧ d ≤ 255) (he : 0 ≤ e ∧ e ≤ 255) (hf : 0 ≤ f ∧ f ≤ 255) : ((Aid.numN ([a, b, c, d, e, f].map fun n => UInt8.ofNat n.toNat) : Nat) : Int) = 256 * (256 * (256 * (256 * (256 * a + b) + c) + d) + e) + f := by
  have h1 := u8nat a ha
  have h2 := u8nat b hb
  have h3 := u8nat c hc
  have h4 := u8nat d hd
  have h5 := u8nat e he
  have h6 := u8nat f hf
  simp only [Aid.numN, List.map_cons, List.map_nil, List.foldl_cons, List.foldl_nil]
  generalize (UInt8.ofNat a.toNat).toNat = x1 at *
  generalize (UInt8.ofNat b.toNat).toNat = x2 at *
  generalize (UInt8.ofNat c.toNat).toNat = x3 at *
  generalize (UInt8.ofNat d.toNat).toNat = x4 at *
  generalize (UInt8.ofNat e.toNat).toNat = x5 at *
  generalize (UInt8.ofNat f.toNat).toNat = x6 at *
  omega
theorem m256 (y : Int) : 0 ≤ y % 256 ∧ y % 256 ≤ 255 := by omega
theorem of_num {x : Int} {n : Nat} (hx : 0 ≤ x ∧ x ≤ 18446744073709551615) (hn : n = 1 ∨ n = 2 ∨ n = 4 ∨ n = 6) : ((Aid.numN (ofB x n).data.toList : Nat) : Int) = x % (256 ^ n : Nat) := by
  unfold ofB
  rw [strOfNums_data]
  rcases hn with rfl | rfl | rfl | rfl
  · have h := u8nat (x % 256) (m256 _)
    show ((256 * 0 + (UInt8.ofNat (x % 256).toNat).toNat : Nat) : Int) = x % 256
    omega
  · refine (nums2 (x / 256 % 256) (x % 256) (m256 _) (m256 _)).trans ?_
    show _ = x % 65536
    omega
  · refine (nums4 (x / 16777216 % 256) (x / 65536 % 256) (x / 256 % 256) (x % 256) (m256 _) (m256 _) (m256 _) (m256 _)).trans ?_
    show _ = x % 4294967296
    have d1 : x % 256 = x - 256 * (x / 256) := by omega
    have d2 : x / 256 % 256 = x / 256 - 256 * (x / 65536) := by omega
    have d3 : x / 65536 % 256 = x / 65536 - 256 * (x / 16777216) := by omega
    have d4 : x / 16777216 % 256 = x / 16777216 - 256 * (x / 4294967296) := by omega
    have d5 : x % 4294967296 = x - 4294967296 * (x / 4294967296) := by omega
    rw [d1, d2, d3, d4, d5]
    generalize x / 256 = q1
    generalize x / 65536 = q2
    generalize x / 16777216 = q3
    generalize x / 4294967296 = q4
    omega
  · refine (nums6 (x / 1099511627776 % 256) (x / 4294967296 % 256) (x / 16777216 % 256) (x / 65536 % 256) (x / 256 % 256) (x % 256) (m256 _) (m256 _) (m256 _) (m256 _) (m256 _) (m256 _)).trans ?_
    show _ = x % 281474976710656
    have d1 : x % 256 = x - 256 * (x / 256) := by omega
    have d2 : x / 256 % 256 = x / 256 - 256 * (x / 65536) := by omega
    have d3 : x / 65536 % 256 = x / 65536 - 256 * (x / 16777216) := by omega
    have d4 : x / 16777216 % 256 = x / 16777216 - 256 * (x / 4294967296) := by omega
    have d5 : x / 4294967296 % 256 = x / 4294967296 - 256 * (x / 1099511627776) := by omega
    have d6 : x / 1099511627776 % 256 = x / 1099511627776 - 256 * (x / 281474976710656) := by omega
    have d7 : x % 281474976710656 = x - 281474976710656 * (x / 281474976710656) := by omega
    rw [d1, d2, d3, d4, d5, d6, d7]
    generalize x / 256 = q1
    generalize x / 65536 = q2
    generalize x / 16777216 = q3
    generalize x / 4294967296 = q4
    generalize x / 1099511627776 = q5
    generalize x / 281474976710656 = q6
    omega


theorem alive_eq : stevedorelaw08_alive.f = some true := rfl
theorem list_ba {a b : ByteArray} (h : a = b) : a.toList = b.toList := by rw [h]
theorem ba_list {a b : ByteArray} (h : a.toList = b.toList) : a = b := by
  rw [ByteArray.toList_eq, ByteArray.toList_eq] at h
  exact ba_ext h
def headB : ByteArray := ⟨#[0, 1, 8, 0, 6, 4]⟩
theorem headB_size : headB.size = 6 := rfl
def endB (m ip : Int) : ByteArray := ofB m 6 ++ ofB ip 4
theorem endB_size (m ip : Int) : (endB m ip).size = 10 := by unfold endB; rw [ByteArray.size_append, ofB_size _ _ (by omega), ofB_size _ _ (by omega)]
def encB (op m ip tm tip : Int) : ByteArray := headB ++ ofB op 2 ++ endB m ip ++ endB tm tip
theorem encB_size (op m ip tm tip : Int) : (encB op m ip tm tip).size = 28 := by
  unfold encB; rw [ByteArray.size_append, ByteArray.size_append, ByteArray.size_append, endB_size, endB_size, ofB_size _ _ (by omega), headB_size]
/-- A packet of the right kinds. -/
structure Pk (op m ip tm tip : Int) : Prop where
  op0 : 0 ≤ op
  op1 : op ≤ 65535
  m0 : 0 ≤ m
  m1 : m ≤ 18446744073709551615
  i0 : 0 ≤ ip
  i1 : ip ≤ 4294967295
  t0 : 0 ≤ tm
  t1 : tm ≤ 18446744073709551615
  j0 : 0 ≤ tip
  j1 : tip ≤ 4294967295
theorem right_eq (m ip op tm tip : Int) : arp_packet_right.f m ip op tm tip = some (decide (op = 1 ∨ op = 2)) := by
  unfold arp_packet_right.f
  by_cases h : op = 1
  · rw [if_pos h, decide_eq_true (Or.inl h)]
  · rw [if_neg h]
    congr 1
    rw [Bool.eq_iff_iff, beq_iff_eq, decide_eq_true_iff]
    constructor
    · exact Or.inr
    · intro x; exact x.resolve_left h
theorem wrap64u (x : Int) (h0 : 0 ≤ x) (h1 : x ≤ 4294967295) : IntKind.u64.wrap x = x := by rw [Aid.wrap_u64]; omega
theorem bytes_eq (m ip : Int) (m0 : 0 ≤ m) (m1 : m ≤ 18446744073709551615) (i0 : 0 ≤ ip) (i1 : ip ≤ 4294967295) : arp_end_bytes.f m ip = some (endB m ip) := by
  unfold arp_end_bytes.f
  rw [show (6 : Int) = ((6 : Nat) : Int) from rfl, of_eq m 6 ⟨m0, m1⟩ (by omega), wrap64u ip i0 i1, show (4 : Int) = ((4 : Nat) : Int) from rfl, of_eq ip 4 (by omega) (by omega)]
  simp only [Option.bind_some]
  rw [if_pos (by rw [ofB_size _ _ (by omega), ofB_size _ _ (by omega)]; omega)]
  rfl
theorem j0_eq (k : Nat) (b : Bool) {op m ip tm tip : Int} (h : Pk op m ip tm tip) : arp_Encode.j0 (k + 1) b m ip op tm tip = some (if b = true then (⟨#[]⟩, 2) else (encB op m ip tm tip, 0)) := by
  simp only [arp_Encode.j0]
  cases b with
  | true => rfl
  | false =>
    rw [if_neg (by decide), if_neg (by decide), wrap64u op h.op0 (by have := h.op1; omega), show (2 : Int) = ((2 : Nat) : Int) from rfl, of_eq op 2 ⟨h.op0, by have := h.op1; omega⟩ (by omega)]
    simp only [Option.bind_some]
    rw [if_pos (by rw [ofB_size _ _ (by omega)]; omega), bytes_eq m ip h.m0 h.m1 h.i0 h.i1]
    simp only [Option.bind_some]
    rw [if_pos (by rw [ByteArray.size_append, ofB_size _ _ (by omega), endB_size, show (ByteArray.size ⟨#[0, 1, 8, 0, 6, 4]⟩) = 6 from rfl]; omega), bytes_eq tm tip h.t0 h.t1 h.j0 h.j1]
    simp only [Option.bind_some]
    rw [if_pos (by rw [ByteArray.size_append, ByteArray.size_append, ofB_size _ _ (by omega), endB_size, endB_size, show (ByteArray.size ⟨#[0, 1, 8, 0, 6, 4]⟩) = 6 from rfl]; omega)]
    rfl
/-- May it be? -/
def okB (op m tm : Int) : Bool := decide (op = 1 ∨ op = 2) && (decide (m < 281474976710656) && decide (tm < 281474976710656))
theorem enc_eq (k : Nat) {op m ip tm tip : Int} (h : Pk op m ip tm tip) : arp_Encode.f (k + 1) op m ip tm tip = some (if okB op m tm = true then (encB op m ip tm tip, 0) else (⟨#[]⟩, 2)) := by
  unfold arp_Encode.f arp_packed.f
  simp only [Option.bind_some]
  rw [right_eq]
  simp only [Option.bind_some]
  unfold okB arp_end_whole.f
  cases decide (op = 1 ∨ op = 2) with
  | false => rw [if_neg (by decide), j0_eq k true h]; rfl
  | true =>
    rw [if_pos rfl]
    simp only [Option.bind_some]
    cases decide (m < 281474976710656) with
    | false => rw [if_neg (by decide), j0_eq k true h]; rfl
    | true =>
      rw [if_pos rfl, j0_eq k _ h]
      cases decide (tm < 281474976710656) <;> rfl
theorem pk_of {op m ip tm tip : Int} (u0 : (Lit.int .u16 op).wf = true) (u1 : (Lit.int .u64 m).wf = true) (u2 : (Lit.int .u32 ip).wf = true) (u3 : (Lit.int .u64 tm).wf = true) (u4 : (Lit.int .u32 tip).wf = true) : Pk op m ip tm tip := by
  have h0 := bounds_u16 u0
  have h1 := bounds_u64 u1
  have h2 := bounds_u32 u2
  have h3 := bounds_u64 u3
  have h4 := bounds_u32 u4
  exact ⟨by omega, by omega, by omega, by omega, by omega, by omega, by omega, by omega, by omega, by omega⟩


theorem low48 (x : Int) (h : 0 ≤ x ∧ x ≤ 18446744073709551615) : Go.bits .and .u64 x 281474976710655 = x % 281474976710656 := by
  have e : (281474976710655 : Int) = 2 ^ 48 - 1 := by decide +kernel
  rw [e, bits_mask .u64 64 (by decide) Aid.wraps_u64 48 (by decide) x h.1 (by omega)]
  rfl
theorem enc_some (k : Nat) {op m ip tm tip : Int} (h : Pk op m ip tm tip) (ho : op = 1 ∨ op = 2) (hm : m < 281474976710656) (ht : tm < 281474976710656) : arp_Encode.f (k + 1) op m ip tm tip = some (encB op m ip tm tip, 0) := by
  rw [enc_eq k h]
  unfold okB
  rw [decide_eq_true ho, decide_eq_true hm, decide_eq_true ht]
  rfl
theorem ArpTalk : stevedorelaw08_ArpTalk.Pure := by
  intro a0 a1 a2 a3 w0 w1 w2 w3
  have h0 := bounds_u64 w0
  have h1 := bounds_u64 w1
  have h2 := bounds_u32 w2
  have h3 := bounds_u32 w3
  refine ⟨10, ?_⟩
  unfold stevedorelaw08_ArpTalk.f
  rw [low48 a0 (by omega), low48 a1 (by omega)]
  have x0 : 0 ≤ a0 % 281474976710656 ∧ a0 % 281474976710656 < 281474976710656 := by omega
  have x1 : 0 ≤ a1 % 281474976710656 ∧ a1 % 281474976710656 < 281474976710656 := by omega
  generalize a0 % 281474976710656 = a at *
  generalize a1 % 281474976710656 = b at *
  have P1 : Pk 1 a a2 0 a3 := ⟨by omega, by omega, by omega, by omega, by omega, by omega, by omega, by omega, by omega, by omega⟩
  have P2 : Pk 2 b a3 a a2 := ⟨by omega, by omega, by omega, by omega, by omega, by omega, by omega, by omega, by omega, by omega⟩
  have P3 : Pk 1 a a2 0 a2 := ⟨by omega, by omega, by omega, by omega, by omega, by omega, by omega, by omega, by omega, by omega⟩
  have E1 := enc_some 8 P1 (by omega) (by omega) (by omega)
  have E2 := enc_some 7 P2 (by omega) (by omega) (by omega)
  have E3 := enc_some 6 P3 (by omega) (by omega) (by omega)
  unfold arp_Tell.f arp_Call.f arp_Ask.f arp_packed.f arp_packet_arp.f
  have e1 : wrap64 ((0 : Int) + 1) = 1 := by unfold wrap64; omega
  have e2 : wrap64 ((1 : Int) + 1) = 2 := by unfold wrap64; omega
  have e3 : wrap64 ((2 : Int) + 1) = 3 := by unfold wrap64; omega
  simp only [Option.bind_some, if_true]
  rw [if_neg (show ¬ (2 : Int) = 1 by decide)]
  simp only [Option.bind_some]
  simp only [stevedorelaw08_ArpTalk.l0, Option.bind_some]
  rw [if_pos (by decide), if_pos (by decide), if_pos (by show (0 : Int) < 3; decide), e1, e2, e3]
  rw [if_pos (show (1 : Int) < 3 by decide), if_pos (show (0 : Int) ≤ 1 by decide), if_pos (by show (1 : Int) < 3; decide)]
  rw [if_pos (show (2 : Int) < 3 by decide), if_pos (show (0 : Int) ≤ 2 by decide), if_pos (by show (2 : Int) < 3; decide)]
  show (arp_Encode.f 9 1 a a2 0 a3).bind _ = _
  rw [E1]
  simp only [Option.bind_some, if_true]
  show (arp_Encode.f 8 2 b a3 a a2).bind _ = _
  rw [E2]
  simp only [Option.bind_some, if_true]
  show (arp_Encode.f 7 1 a a2 0 a2).bind _ = _
  rw [E3]
  simp only [Option.bind_some, if_true]
  rfl

end Go.Proofs.Ytonpfbhfcefhcaa.Pure
