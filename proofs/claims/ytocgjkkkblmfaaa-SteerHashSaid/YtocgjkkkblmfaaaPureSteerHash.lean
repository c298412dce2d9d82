import Derived.Test.YtocgjkkkblmfaaaPSteerHashx3
import Derived.Test.YtocgjkkkblmfaaaSt3
import Derived.OpenShut
namespace Go.Proofs.Ytocgjkkkblmfaaa.steerHash
open Go.RowKit Go.Proofs.Ytocgjkkkblmfaaa.PSteerHash Go.Proofs.YtocgjkkkblmfaaaW.PrintWords Go.Proofs.YtocgjkkkblmfaaaW.PrintLast Go.Proofs.YtocgjkkkblmfaaaW.PrintMore
set_option linter.unusedVariables false

theorem works_eq : stevedorelaw05_works.f 200 = some true := by decide +kernel
theorem works_more (m : Nat) : stevedorelaw05_works.f (200 + m) = some true := by
  induction m with
  | zero => exact works_eq
  | succ m ih => exact stevedorelaw05_works.mono (200 + m) _ ih
theorem works_at (k : Nat) (h : 200 ≤ k) : stevedorelaw05_works.f k = some true := by
  obtain ⟨m, rfl⟩ : ∃ m, k = 200 + m := ⟨k - 200, by omega⟩
  exact works_more m

theorem bt_byte (s : ByteArray) (i : Nat) (h : i < s.size) : bt s (i : Int) = (St.byteAt s i : Int) := by
  unfold bt
  rw [dif_pos (by simpa using h)]
  have := St.byte_is s i h
  simp only [Int.toNat_natCast]
  rw [this]

theorem bit_eq (s : ByteArray) (i : Nat) (hs : s.size ≤ 1000) (h : i < 8 * s.size) : stevedoreref05_bit.f s i = some (if St.bitAt s i then 1 else 0) := by
  unfold stevedoreref05_bit.f
  have e1 : wrap64 (Int.tdiv (i : Int) 8) = ((i / 8 : Nat) : Int) := by
    rw [Int.tdiv_eq_ediv_of_nonneg (by omega)]; unfold wrap64; omega
  have e2 : IntKind.u64.wrap (wrap64 (7 - Int.tmod (i : Int) 8)) = ((7 - i % 8 : Nat) : Int) := by
    rw [Int.tmod_eq_emod_of_nonneg (by omega), Aid.wrap_u64]; unfold wrap64; omega
  rw [e1, e2, if_pos (by omega), if_pos (by omega), if_pos (by omega), bt_byte s (i / 8) (by omega)]
  have e3 : shr .u8 (St.byteAt s (i / 8) : Int) ((7 - i % 8 : Nat) : Int) = (St.byteAt s (i / 8) : Int) / 2 ^ (7 - i % 8) := by
    unfold shr
    rw [Int.toNat_natCast]
    have : min (7 - i % 8) IntKind.u8.bits = 7 - i % 8 := Nat.min_eq_left (by show 7 - i % 8 ≤ 8; omega)
    rw [this]
  rw [e3, St.and_u32 _ _ (St.byte_lt _ _)]
  rfl

def rwin (s : ByteArray) (i : Nat) : Nat → BitVec 32
  | 0 => 0#32
  | k + 1 => (rwin s i k <<< 1) ||| (if St.bitAt s (i + k) then 1#32 else 0#32)
theorem rwin_bit (s : ByteArray) (i : Nat) (k : Nat) : k ≤ 32 → ∀ j, j < 32 → (rwin s i k).getLsbD j = (decide (j < k) && St.bitAt s (i + k - 1 - j)) := by
  induction k with
  | zero => intro _ j hj; simp [rwin]
  | succ k ih =>
    intro hk j hj
    show ((rwin s i k <<< 1) ||| (if St.bitAt s (i + k) then 1#32 else 0#32)).getLsbD j = _
    rw [BitVec.getLsbD_or, BitVec.getLsbD_shiftLeft, St.one_bit]
    by_cases c : j = 0
    · subst c
      simp
    · rw [decide_eq_true hj, decide_eq_false c, decide_eq_false (show ¬ j < 1 by omega), ih (by omega) (j - 1) (by omega)]
      simp only [Bool.not_false, Bool.true_and, Bool.false_and, Bool.or_false]
      rw [show i + k - 1 - (j - 1) = i + (k + 1) - 1 - j by omega]
      congr 1
      exact decide_eq_decide.2 (by omega)
theorem rwin_win (s : ByteArray) (i : Nat) : rwin s i 32 = St.win s i := by
  apply BitVec.eq_of_getLsbD_eq
  intro j hj
  rw [rwin_bit s i 32 (Nat.le_refl _) j hj, St.win_bit s i j hj, decide_eq_true hj, Bool.true_and]
  congr 1

theorem rwin_all (s : ByteArray) (i j : Nat) (h : j = 32) : rwin s i j = St.win s i := by rw [h]; exact rwin_win s i
theorem inner (key text : ByteArray) (x : Int) (i : Nat) (hk : key.size = 40) (hi : i < 288) (k : Nat) (d : Nat) : ∀ j, j + d = 32 →
    stevedoreref05_Hash.l1 (k + d + 1) key text x i (((rwin key i j).toNat : Nat) : Int) j = stevedoreref05_Hash.l0 k key text (Go.bits .xor .u32 x (((St.win key i).toNat : Nat) : Int)) ((i + 1 : Nat) : Int) := by
  induction d with
  | zero =>
    intro j hj
    have e : wrap64 ((i : Int) + 1) = ((i + 1 : Nat) : Int) := by unfold wrap64; omega
    rw [show k + 0 + 1 = k + 1 from rfl, stevedoreref05_Hash.l1, if_neg (by omega), e, rwin_all key i j (by omega)]
  | succ d ih =>
    intro j hj
    obtain ⟨m, hm⟩ : ∃ m, m = k + d + 1 := ⟨_, rfl⟩
    rw [show k + (d + 1) + 1 = m + 1 by omega, stevedoreref05_Hash.l1]
    have e1 : wrap64 ((i : Int) + (j : Int)) = ((i + j : Nat) : Int) := by unfold wrap64; omega
    have e2 : wrap64 ((j : Int) + 1) = ((j + 1 : Nat) : Int) := by unfold wrap64; omega
    rw [if_pos (by omega), e1, bit_eq key (i + j) (by omega) (by omega)]
    simp only [Option.bind_some]
    rw [e2, St.shl_bv]
    have e3 : (if St.bitAt key (i + j) then (1 : Int) else 0) = (((if St.bitAt key (i + j) then 1#32 else 0#32 : BitVec 32).toNat : Nat) : Int) := by split <;> rfl
    rw [e3, St.or_bv, hm]
    exact ih (j + 1) (by omega)

theorem outer (key text : ByteArray) (hk : key.size = 40) (ht : text.size ≤ 36) (d : Nat) : ∀ i k, i + d = 8 * text.size → 35 * d + 1 ≤ k →
    stevedoreref05_Hash.l0 k key text (((St.hsh key text i).toNat : Nat) : Int) i = some (((St.hsh key text (8 * text.size)).toNat : Nat) : Int) := by
  induction d with
  | zero =>
    intro i k hi hkk
    obtain ⟨k, rfl⟩ : ∃ m, k = m + 1 := ⟨k - 1, by omega⟩
    obtain rfl : i = 8 * text.size := by omega
    simp only [stevedoreref05_Hash.l0]
    have e : wrap64 (8 * (text.size : Int)) = 8 * text.size := by unfold wrap64; omega
    rw [e, if_neg (by omega)]
  | succ d ih =>
    intro i k hi hkk
    obtain ⟨k, rfl⟩ : ∃ m, k = m + 1 := ⟨k - 1, by omega⟩
    rw [stevedoreref05_Hash.l0]
    have e : wrap64 (8 * (text.size : Int)) = 8 * text.size := by unfold wrap64; omega
    have e2 : wrap64 ((i : Int) + 1) = ((i + 1 : Nat) : Int) := by unfold wrap64; omega
    rw [e, if_pos (by omega), bit_eq text i (by omega) (by omega), Option.bind_some]
    have hs : St.hsh key text (i + 1) = if St.bitAt text i then St.hsh key text i ^^^ St.win key i else St.hsh key text i := rfl
    by_cases c : St.bitAt text i = true
    · rw [if_pos c] at hs
      rw [if_pos c, if_neg (by decide)]
      obtain ⟨k2, hk2⟩ : ∃ m, k = m + 32 + 1 := ⟨k - 33, by omega⟩
      have hin := inner key text (((St.hsh key text i).toNat : Nat) : Int) i hk (by omega) k2 32 0 (by omega)
      have e0 : (((rwin key i 0).toNat : Nat) : Int) = 0 := rfl
      rw [e0, St.xor_bv, ← hs] at hin
      rw [hk2]
      exact hin.trans (ih (i + 1) k2 (by omega) (by omega))
    · rw [if_neg c] at hs
      rw [if_neg c, if_pos rfl, e2, ← hs]
      exact ih (i + 1) k (by omega) (by omega)

theorem ref_eq (key text : ByteArray) (k : Nat) (hk : key.size = 40) (ht : text.size ≤ 36) (h : 10081 ≤ k) :
    stevedoreref05_Hash.f k key text = some (((St.hsh key text (8 * text.size)).toNat : Nat) : Int) := by
  unfold stevedoreref05_Hash.f
  exact outer key text hk ht (8 * text.size) 0 k (by omega) (by omega)

theorem hash_good (key text : ByteArray) (hk : key.size = 40) (ht : text.size ≤ 36) : steer_Hash.f key text = some ((((St.hsh key text (8 * text.size)).toNat : Nat) : Int), 0) := by
  unfold steer_Hash.f; rw [if_pos ⟨hk, ht⟩]
theorem hash_none (key text : ByteArray) (h : ¬ (key.size = 40 ∧ text.size ≤ 36)) (h1 : key.size ≤ 140737488351232) (h2 : text.size ≤ 140737488351232) : steer_Hash.f key text = some (0, 2) := by
  unfold steer_Hash.f; rw [if_neg h, if_pos ⟨h1, h2⟩]

/-- The law's walk. -/
theorem hashed (key text : ByteArray) (ip1 p1 ip2 p2 : Int) (w : World) (wk : key.size ≤ 140737488351232) (wt : text.size ≤ 140737488351232) (u1 : (Lit.int .u32 ip1).wf = true) (u2 : (Lit.int .u16 p1).wf = true) (u3 : (Lit.int .u32 ip2).wf = true) (u4 : (Lit.int .u16 p2).wf = true) :
    Calls Try.prog 6 #[.string key, .string text, .agg #[.int .u32 ip1, .int .u16 p1, .int .u32 ip2, .int .u16 p2]] w fun e w' => e = .returned (.bool true) ∧ Below w.heap.size w w' := by
  have h1 := bounds_u32 u1
  have h2 := bounds_u16 u2
  have h3 := bounds_u32 u3
  have h4 := bounds_u16 u4
  have hT : steer_Text.f ip1 p1 ip2 p2 = some (strOfNums (St.pairB ip1 p1 ip2 p2)) := by unfold steer_Text.f; rw [if_pos ⟨h1, h3, h2, h4⟩]
  have hR : stevedoreref05_Text.f ip1 p1 ip2 p2 = some (strOfNums (St.pairB ip1 p1 ip2 p2)) := by
    unfold stevedoreref05_Text.f St.pairB
    rw [show ip1 / 16777216 % 256 = ip1 / 16777216 by omega, show ip2 / 16777216 % 256 = ip2 / 16777216 by omega, show p1 / 256 % 256 = p1 / 256 by omega, show p2 / 256 % 256 = p2 / 256 by omega]
  have hz : (strOfNums (St.pairB ip1 p1 ip2 p2)).size = 12 := by rw [strOfNums_size]; rfl
  generalize strOfNums (St.pairB ip1 p1 ip2 p2) = T at *
  have hj : stevedorelaw05_SteerHash.j0 11000 key text true ip1 p1 ip2 p2 = some true := by
    simp only [stevedorelaw05_SteerHash.j0, if_true]
    rw [works_at _ (by omega)]; rfl
  have h : stevedorelaw05_SteerHash.f 11000 key text ip1 p1 ip2 p2 = some true := by
    unfold stevedorelaw05_SteerHash.f
    by_cases c0 : (key.size : Int) > 1024
    · rw [if_pos c0]; exact hj
    rw [if_neg c0]
    by_cases c1 : (text.size : Int) > 1024
    · rw [decide_eq_true c1]; exact hj
    rw [decide_eq_false c1]
    clear hj
    simp only [stevedorelaw05_SteerHash.j0, Bool.false_eq_true, if_false]
    unfold steer_Pair.f
    rw [hT, hR]
    simp only [Option.bind_some, if_true]
    by_cases ck : key.size = 40
    · have ck' : (key.size : Int) = 40 := by omega
      rw [hash_good key T ck (by omega), ref_eq key T 10999 ck (by omega) (by omega)]
      by_cases ct : text.size ≤ 36
      · rw [hash_good key text ck ct]
        simp only [Option.bind_some, ck', if_true, bne_self_eq_false, stevedorelaw05_SteerHash.j1, Bool.false_eq_true, if_false]
        rw [if_neg (show ¬ (text.size : Int) > 36 by omega), ref_eq key text 10998 ck ct (by omega), works_at 10998 (by omega)]
        simp only [Option.bind_some, if_true]
      · rw [hash_none key text (by omega) wk wt]
        simp only [Option.bind_some, ck', if_true, bne_self_eq_false, stevedorelaw05_SteerHash.j1, Bool.false_eq_true, if_false]
        rw [if_pos (show (text.size : Int) > 36 by omega), works_at 10998 (by omega)]
        simp only [Option.bind_some]
    · have ck' : ¬ (key.size : Int) = 40 := by omega
      rw [hash_none key text (by omega) wk wt, hash_none key T (by omega) wk (by omega), works_at 10999 (by omega)]
      simp only [Option.bind_some, ck', if_true, if_false]
  exact stevedorelaw05_SteerHash.calls 11000 key text ip1 p1 ip2 p2 true w h
end Go.Proofs.Ytocgjkkkblmfaaa.steerHash
