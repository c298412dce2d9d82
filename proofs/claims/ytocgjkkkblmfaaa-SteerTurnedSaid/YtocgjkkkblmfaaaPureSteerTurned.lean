import Derived.Test.YtocgjkkkblmfaaaPSteerTurnedx1
import Derived.Test.YtocgjkkkblmfaaaSt3
import Derived.OpenShut
namespace Go.Proofs.Ytocgjkkkblmfaaa.steerTurned
open Go.RowKit Go.Proofs.Ytocgjkkkblmfaaa.PSteerTurned Go.Proofs.YtocgjkkkblmfaaaW.PrintWords Go.Proofs.YtocgjkkkblmfaaaW.PrintLast
set_option linter.unusedVariables false

theorem works_eq : stevedorelaw05_works.f 200 = some true := by decide +kernel

def rep2 (a b : Int) : Nat → List Int
  | 0 => []
  | n + 1 => rep2 a b n ++ [a, b]
theorem rep2_length (a b : Int) (n : Nat) : (rep2 a b n).length = 2 * n := by
  induction n with
  | zero => rfl
  | succ n ih => simp [rep2, ih]; omega
theorem rep2_get (a b : Int) (n : Nat) : ∀ i, i + 2 < 2 * n → (rep2 a b n)[i + 2]? = (rep2 a b n)[i]? := by
  induction n with
  | zero => intro i h; omega
  | succ n ih =>
    intro i h
    have hl := rep2_length a b n
    show (rep2 a b n ++ [a, b])[i + 2]? = (rep2 a b n ++ [a, b])[i]?
    by_cases c : i + 2 < 2 * n
    · rw [List.getElem?_append_left (by omega), List.getElem?_append_left (by omega)]
      exact ih i c
    · rw [List.getElem?_append_right (by omega), hl]
      obtain ⟨m, rfl⟩ : ∃ m, n = m + 1 := ⟨n - 1, by
        rcases Nat.eq_zero_or_pos n with e | e
        · subst e; omega
        · omega⟩
      have hl2 := rep2_length a b m
      rw [List.getElem?_append_left (by omega)]
      show _ = (rep2 a b m ++ [a, b])[i]?
      rw [List.getElem?_append_right (by omega), hl2]
      congr 1; omega

def keyB (a b : Int) : ByteArray := strOfNums (rep2 a b 20)
theorem key_size (a b : Int) : (keyB a b).size = 40 := by unfold keyB; rw [strOfNums_size, rep2_length]
theorem key_byte (a b : Int) (i : Nat) (h : i + 2 < 40) : St.byteAt (keyB a b) (i + 2) = St.byteAt (keyB a b) i := by
  unfold St.byteAt keyB
  rw [strOfNums_data, List.getD_eq_getElem?_getD, List.getD_eq_getElem?_getD, List.getElem?_map, List.getElem?_map, rep2_get a b 20 i (by omega)]
theorem key_bit (a b : Int) (i : Nat) (h : i + 16 < 320) : St.bitAt (keyB a b) (i + 16) = St.bitAt (keyB a b) i := by
  unfold St.bitAt
  rw [show (i + 16) / 8 = i / 8 + 2 by omega, show (i + 16) % 8 = i % 8 by omega, key_byte a b _ (by omega)]
theorem key_win (a b : Int) (i : Nat) (h : i + 48 ≤ 320) : St.win (keyB a b) (i + 16) = St.win (keyB a b) i := by
  apply St.win_ext
  intro j hj
  rw [show i + 16 + j = i + j + 16 by omega]
  exact key_bit a b (i + j) (by omega)
theorem key_cb (a b : Int) (m c : Nat) (h : m ≤ 30) : St.cb (keyB a b) (m + 2) c = St.cb (keyB a b) m c := by
  unfold St.cb
  rw [show 8 * (m + 2) = 8 * m + 16 by omega, show 8 * m + 16 + 1 = 8 * m + 1 + 16 by omega, show 8 * m + 16 + 2 = 8 * m + 2 + 16 by omega, show 8 * m + 16 + 3 = 8 * m + 3 + 16 by omega, show 8 * m + 16 + 4 = 8 * m + 4 + 16 by omega,
    show 8 * m + 16 + 5 = 8 * m + 5 + 16 by omega, show 8 * m + 16 + 6 = 8 * m + 6 + 16 by omega, show 8 * m + 16 + 7 = 8 * m + 7 + 16 by omega]
  rw [key_win a b (8 * m) (by omega), key_win a b (8 * m + 1) (by omega), key_win a b (8 * m + 2) (by omega), key_win a b (8 * m + 3) (by omega), key_win a b (8 * m + 4) (by omega), key_win a b (8 * m + 5) (by omega), key_win a b (8 * m + 6) (by omega), key_win a b (8 * m + 7) (by omega)]

/-- The hash of twelve bytes under such a key. -/
theorem hash12 (a b : Int) (t : ByteArray) : St.hsh (keyB a b) t (8 * 12) =
    St.cb (keyB a b) 0 (St.byteAt t 0) ^^^ St.cb (keyB a b) 1 (St.byteAt t 1) ^^^ St.cb (keyB a b) 0 (St.byteAt t 2) ^^^ St.cb (keyB a b) 1 (St.byteAt t 3) ^^^ St.cb (keyB a b) 0 (St.byteAt t 4) ^^^ St.cb (keyB a b) 1 (St.byteAt t 5)
    ^^^ St.cb (keyB a b) 0 (St.byteAt t 6) ^^^ St.cb (keyB a b) 1 (St.byteAt t 7) ^^^ St.cb (keyB a b) 0 (St.byteAt t 8) ^^^ St.cb (keyB a b) 1 (St.byteAt t 9) ^^^ St.cb (keyB a b) 0 (St.byteAt t 10) ^^^ St.cb (keyB a b) 1 (St.byteAt t 11) := by
  have k2 := fun c => key_cb a b 0 c (by omega)
  have k3 := fun c => key_cb a b 1 c (by omega)
  have k4 := fun c => key_cb a b 2 c (by omega)
  have k5 := fun c => key_cb a b 3 c (by omega)
  have k6 := fun c => key_cb a b 4 c (by omega)
  have k7 := fun c => key_cb a b 5 c (by omega)
  have k8 := fun c => key_cb a b 6 c (by omega)
  have k9 := fun c => key_cb a b 7 c (by omega)
  have k10 := fun c => key_cb a b 8 c (by omega)
  have k11 := fun c => key_cb a b 9 c (by omega)
  simp only [Nat.reduceAdd] at k2 k3 k4 k5 k6 k7 k8 k9 k10 k11
  rw [St.hsh_byte _ _ 11, St.hsh_byte _ _ 10, St.hsh_byte _ _ 9, St.hsh_byte _ _ 8, St.hsh_byte _ _ 7, St.hsh_byte _ _ 6, St.hsh_byte _ _ 5, St.hsh_byte _ _ 4, St.hsh_byte _ _ 3, St.hsh_byte _ _ 2, St.hsh_byte _ _ 1, St.hsh_byte _ _ 0]
  simp only [k11, k9, k7, k5, k3, k10, k8, k6, k4, k2]
  have e0 : St.hsh (keyB a b) t (8 * 0) = 0#32 := rfl
  rw [e0, BitVec.zero_xor]

theorem turn12 {e o : Nat → BitVec 32} (c0 c1 c2 c3 c4 c5 c6 c7 c8 c9 c10 c11 : Nat) :
    e c0 ^^^ o c1 ^^^ e c2 ^^^ o c3 ^^^ e c4 ^^^ o c5 ^^^ e c6 ^^^ o c7 ^^^ e c8 ^^^ o c9 ^^^ e c10 ^^^ o c11 =
    e c4 ^^^ o c5 ^^^ e c6 ^^^ o c7 ^^^ e c0 ^^^ o c1 ^^^ e c2 ^^^ o c3 ^^^ e c10 ^^^ o c11 ^^^ e c8 ^^^ o c9 := by ac_rfl

theorem turned_hash (a b ip1 p1 ip2 p2 : Int) : St.hsh (keyB a b) (strOfNums (St.pairB ip1 p1 ip2 p2)) (8 * 12) = St.hsh (keyB a b) (strOfNums (St.pairB ip2 p2 ip1 p1)) (8 * 12) := by
  rw [hash12, hash12]
  exact turn12 _ _ _ _ _ _ _ _ _ _ _ _

theorem pair_size (ip1 p1 ip2 p2 : Int) : (strOfNums (St.pairB ip1 p1 ip2 p2)).size = 12 := by rw [strOfNums_size]; rfl

theorem pair_eq (a b ip1 p1 ip2 p2 : Int) (h1 : 0 ≤ ip1 ∧ ip1 ≤ 4294967295) (h2 : 0 ≤ ip2 ∧ ip2 ≤ 4294967295) (h3 : 0 ≤ p1 ∧ p1 ≤ 65535) (h4 : 0 ≤ p2 ∧ p2 ≤ 65535) :
    steer_Pair.f (keyB a b) ip1 p1 ip2 p2 = some (((St.hsh (keyB a b) (strOfNums (St.pairB ip1 p1 ip2 p2)) (8 * 12)).toNat : Int), 0) := by
  unfold steer_Pair.f steer_Text.f
  rw [if_pos ⟨h1, h2, h3, h4⟩]
  simp only [Option.bind_some]
  unfold steer_Hash.f
  rw [if_pos ⟨key_size a b, by rw [pair_size]; decide⟩, pair_size]
  rfl

theorem loop_eq (a b ip1 p1 ip2 p2 : Int) (h1 : 0 ≤ ip1 ∧ ip1 ≤ 4294967295) (h2 : 0 ≤ ip2 ∧ ip2 ≤ 4294967295) (h3 : 0 ≤ p1 ∧ p1 ≤ 65535) (h4 : 0 ≤ p2 ∧ p2 ≤ 65535) (d : Nat) :
    ∀ i k, i + d = 20 → 200 + d = k → stevedorelaw05_SteerTurned.l0 (k + 1) a b (rep2 a b i) i ip1 p1 ip2 p2 = some true := by
  induction d with
  | zero =>
    intro i k hi hk
    have hi : i = 20 := by omega
    subst hk
    rw [stevedorelaw05_SteerTurned.l0, if_neg (by omega), hi]
    have e1 := pair_eq a b ip1 p1 ip2 p2 h1 h2 h3 h4
    have e2 := pair_eq a b ip2 p2 ip1 p1 h2 h1 h4 h3
    have ht := turned_hash a b ip1 p1 ip2 p2
    unfold keyB at e1 e2 ht
    generalize strOfNums (rep2 a b 20) = K at *
    rw [ht] at e1
    generalize (St.hsh K (strOfNums (St.pairB ip2 p2 ip1 p1)) (8 * 12)).toNat = X at *
    rw [e1, e2, works_eq, Option.bind_some, Option.bind_some, if_pos rfl, if_pos rfl, if_pos rfl, Option.bind_some]
  | succ d ih =>
    intro i k hi hk
    obtain ⟨k, rfl⟩ : ∃ m, k = m + 1 := ⟨k - 1, by omega⟩
    have hl := rep2_length a b i
    have e : wrap64 ((i : Int) + 1) = ((i + 1 : Nat) : Int) := by unfold wrap64; omega
    have hlen : (rep2 a b i).length + ([a, b] : List Int).length < 140737488355328 := by rw [hl]; show 2 * i + 2 < _; omega
    have hn := ih (i + 1) k (by omega) (by omega)
    rw [stevedorelaw05_SteerTurned.l0]
    rw [if_pos (by omega)]
    simp only [Option.bind_some]
    rw [if_pos hlen, e]
    exact hn

/-- The law's walk. -/
theorem turned (a b ip1 p1 ip2 p2 : Int) (w : World) (wa : (Lit.int .u8 a).wf = true) (wb : (Lit.int .u8 b).wf = true) (u1 : (Lit.int .u32 ip1).wf = true) (u2 : (Lit.int .u16 p1).wf = true) (u3 : (Lit.int .u32 ip2).wf = true) (u4 : (Lit.int .u16 p2).wf = true) :
    Calls Try.prog 7 #[.int .u8 a, .int .u8 b, .agg #[.int .u32 ip1, .int .u16 p1, .int .u32 ip2, .int .u16 p2]] w fun e w' => e = .returned (.bool true) ∧ Below w.heap.size w w' := by
  have h : stevedorelaw05_SteerTurned.f 221 a b ip1 p1 ip2 p2 = some true := by
    unfold stevedorelaw05_SteerTurned.f
    exact loop_eq a b ip1 p1 ip2 p2 (bounds_u32 u1) (bounds_u32 u3) (bounds_u16 u2) (bounds_u16 u4) 20 0 220 (by omega) (by omega)
  exact stevedorelaw05_SteerTurned.calls 221 a b ip1 p1 ip2 p2 true w h
end Go.Proofs.Ytocgjkkkblmfaaa.steerTurned
