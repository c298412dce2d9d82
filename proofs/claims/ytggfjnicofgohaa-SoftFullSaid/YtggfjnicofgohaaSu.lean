import Derived.Test.YtggfjnicofgohaaSi
namespace Go.Proofs.Ytggfjnicofgohaa.Sf
open Go.RowKit Blk Go.Proofs.YtggfjnicofgohaaW.PrintWords
set_option linter.unusedVariables false

/-- The buffers from a on, ahead of b. -/
def up (a b : Nat) : List (Int × Int) := (List.range' a (b - a)).map fun j : Nat => ((j : Int), (j : Int))
theorem up_len (a b : Nat) : (up a b).length = b - a := by simp [up]
theorem up_nil (a : Nat) : up a a = [] := by simp [up]
theorem up_snoc (a b : Nat) (h : a ≤ b) : up a (b + 1) = up a b ++ [((b : Int), (b : Int))] := by
  unfold up
  rw [show b + 1 - a = (b - a) + 1 by omega, List.range'_concat]
  simp
  omega
theorem up_cons (a b : Nat) (h : a < b) : up a b = ((a : Int), (a : Int)) :: up (a + 1) b := by
  unfold up
  rw [show b - a = (b - (a + 1)) + 1 by omega, List.range'_succ]
  simp
theorem up_hash (a b : Nat) (hb : b ≤ 1000) : ∀ p ∈ up a b, 0 ≤ p.2 ∧ p.2 ≤ 4294967295 := by
  intro p hp
  unfold up at hp
  obtain ⟨j, hj, rfl⟩ := List.mem_map.1 hp
  rw [List.mem_range'] at hj
  obtain ⟨i, hi, rfl⟩ := hj
  dsimp only
  omega
/-- From a on, ahead of b, wait with the first core; so many were lost. -/
structure Fl (s : St) (n a b : Nat) (k lo hi : Int) : Prop where
  sn : s.n = 2
  most : s.most = n
  rows : s.rows = [up a b, []]
  lost : s.lost = [k, 0]
  cor : s.cor = z256
  cnt : ∀ j, lo ≤ s.cnt.getD j 0 ∧ s.cnt.getD j 0 ≤ hi
theorem Fl.ok {s : St} {n a b : Nat} {k lo hi : Int} (h : Fl s n a b k lo hi) (hn : 1 ≤ n ∧ n ≤ 256) (hb : b ≤ n) (hk : 0 ≤ k ∧ k ≤ 100000) (hlo : -1000 ≤ lo) (hhi : hi ≤ 1000) : s.Ok 1000 := by
  refine ⟨by rw [h.sn]; decide, by rw [h.sn]; decide, by rw [h.most]; exact hn.1, by rw [h.most]; exact hn.2, fun i => ?_, fun i p hp => ?_, fun i => ?_, fun j => ?_, by decide⟩
  · rw [h.rows, h.most]
    rcases getD2 (up a b) [] [] i with e | e | e <;> rw [e]
    · rw [up_len]; omega
    · exact Nat.zero_le _
    · exact Nat.zero_le _
  · rw [h.rows] at hp
    rcases getD2 (up a b) [] [] i with e | e | e <;> rw [e] at hp
    · exact up_hash a b (by omega) p hp
    · cases hp
    · cases hp
  · rw [h.lost]
    rcases getD2 k 0 0 i with e | e | e <;> rw [e] <;> omega
  · have := h.cnt j; omega
theorem fl_start (n : Nat) : Fl (fresh 2 n) n 0 0 0 0 0 := ⟨rfl, rfl, rfl, rfl, rfl, fun j => by rw [show (fresh 2 n).cnt = z256 from rfl, z_getD]; decide⟩
theorem set_bd2 (l : List Int) (i j : Nat) (v lo hi : Int) (hl : ∀ j, lo ≤ l.getD j 0 ∧ l.getD j 0 ≤ hi) (hv : lo ≤ v ∧ v ≤ hi) : lo ≤ (l.set i v).getD j 0 ∧ (l.set i v).getD j 0 ≤ hi := by
  rw [List.getD_eq_getElem?_getD, List.getElem?_set]
  split
  · split
    · exact hv
    · have := hl l.length
      rw [List.getD_eq_getElem?_getD, List.getElem?_eq_none (Nat.le_refl _)] at this
      exact this
  · have := hl j
    rw [List.getD_eq_getElem?_getD] at this
    exact this
theorem fl_put {s : St} {n i : Nat} {hi : Int} (h : Fl s n 0 i 0 0 hi) (hin : i < n) (hn : n ≤ 256) (h0 : 0 ≤ hi) : (s.put 0 i i).2 = 0 ∧ Fl (s.put 0 i i).1 n 0 (i + 1) 0 0 (hi + 1) := by
  have e : s.put 0 i i = ({ s with rows := s.rows.set 0 (s.rows.getD 0 [] ++ [((i : Int), (i : Int))]), cnt := s.cnt.set ((i : Int) % 256).toNat (s.cnt.getD ((i : Int) % 256).toNat 0 + 1) }, 0) := by
    unfold St.put
    rw [if_neg (by rw [h.sn]; decide), if_neg (by
      rw [h.rows, h.most]
      show ¬ n ≤ (up 0 i).length
      rw [up_len]; omega), if_pos (by rw [h.cor, z_getD])]
    rfl
  rw [e]
  refine ⟨rfl, h.sn, h.most, ?_, h.lost, h.cor, fun j => ?_⟩
  · show s.rows.set 0 (s.rows.getD 0 [] ++ [((i : Int), (i : Int))]) = _
    rw [h.rows, up_snoc 0 i (Nat.zero_le _)]
    rfl
  · have hc := h.cnt ((i : Int) % 256).toNat
    exact set_bd2 s.cnt _ j _ 0 (hi + 1) (fun j => by have := h.cnt j; omega) (by omega)
theorem fl_full {s : St} {n : Nat} {k hi x y : Int} (h : Fl s n 0 n k 0 hi) (hk : 0 ≤ k ∧ k ≤ 100000) : (s.put 0 x y).2 = 6 ∧ Fl (s.put 0 x y).1 n 0 n (k + 1) 0 hi := by
  have e : s.put 0 x y = ({ s with lost := s.lost.set 0 ((s.lost.getD 0 0 + 1) % 18446744073709551616) }, 6) := by
    unfold St.put
    rw [if_neg (by rw [h.sn]; decide), if_pos (by
      rw [h.rows, h.most]
      show n ≤ (up 0 n).length
      rw [up_len]; omega)]
    rfl
  rw [e]
  refine ⟨rfl, h.sn, h.most, h.rows, ?_, h.cor, h.cnt⟩
  show s.lost.set 0 ((s.lost.getD 0 0 + 1) % 18446744073709551616) = _
  rw [h.lost]
  show [(k + 1) % 18446744073709551616, 0] = _
  rw [Int.emod_eq_of_lt (by omega) (by omega)]
theorem fl_take {s : St} {n a b : Nat} {k lo hi : Int} (h : Fl s n a b k lo hi) (hab : a < b) : (s.take 0).2 = ((a : Int), (a : Int), true) ∧ Fl (s.take 0).1 n (a + 1) b k (lo - 1) hi := by
  have hr : s.rows.getD (0 : Int).toNat [] = ((a : Int), (a : Int)) :: up (a + 1) b := by
    rw [h.rows, ← up_cons a b hab]; rfl
  have e : s.take 0 = ({ s with rows := s.rows.set 0 (up (a + 1) b), cnt := s.cnt.set ((a : Int) % 256).toNat (s.cnt.getD ((a : Int) % 256).toNat 0 - 1) }, (a : Int), (a : Int), true) := by
    unfold St.take
    rw [if_neg (by rw [h.sn]; decide), hr]
    dsimp only
    rw [if_pos (by rw [h.cor, z_getD])]
    rfl
  rw [e]
  refine ⟨rfl, h.sn, h.most, ?_, h.lost, h.cor, fun j => ?_⟩
  · show s.rows.set 0 (up (a + 1) b) = _
    rw [h.rows]
    rfl
  · have hc := h.cnt ((a : Int) % 256).toNat
    exact set_bd2 s.cnt _ j _ (lo - 1) hi (fun j => by have := h.cnt j; omega) (by omega)
theorem fl_none {s : St} {n a : Nat} {k lo hi : Int} (h : Fl s n a a k lo hi) : s.take 0 = (s, 0, 0, false) := by
  have hr : s.rows.getD (0 : Int).toNat [] = [] := by rw [h.rows, up_nil]; rfl
  unfold St.take
  rw [if_neg (by rw [h.sn]; decide), hr]
theorem fl_lens {s : St} {n a b : Nat} {k lo hi : Int} (h : Fl s n a b k lo hi) : s.len 0 = ((b - a : Nat) : Int) ∧ s.drops 0 = k ∧ s.len 1 = 0 ∧ s.drops 1 = 0 := by
  unfold St.len St.drops
  rw [h.sn, h.rows, h.lost]
  refine ⟨?_, rfl, rfl, rfl⟩
  rw [if_neg (by decide)]
  show ((up a b).length : Int) = _
  rw [up_len]
theorem Fl.mono {s : St} {n a b : Nat} {k lo hi hi' : Int} (h : Fl s n a b k lo hi) (hh : hi ≤ hi') : Fl s n a b k lo hi' := ⟨h.sn, h.most, h.rows, h.lost, h.cor, fun j => by have := h.cnt j; omega⟩
theorem fl_step {s : St} {n i : Nat} (h : Fl s n 0 (min i n) ((i - n : Nat) : Int) 0 i) (hn : n ≤ 256) (hi : i ≤ 1000) : (s.put 0 i i).2 = (if i < n then 0 else 6) ∧ Fl (s.put 0 i i).1 n 0 (min (i + 1) n) ((i + 1 - n : Nat) : Int) 0 ((i + 1 : Nat) : Int) := by
  by_cases c : i < n
  · rw [show min i n = i by omega, show i - n = 0 by omega] at h
    rw [if_pos c, show min (i + 1) n = i + 1 by omega, show i + 1 - n = 0 by omega]
    have := fl_put h c hn (by omega)
    exact ⟨this.1, this.2⟩
  · rw [show min i n = n by omega] at h
    rw [if_neg c, show min (i + 1) n = n by omega]
    have := fl_full (x := i) (y := i) h (by omega)
    refine ⟨this.1, ?_⟩
    rw [show ((i + 1 - n : Nat) : Int) = ((i - n : Nat) : Int) + 1 by omega]
    exact this.2.mono (by omega)
/-- The greater of a number and nought. -/
def mxz (x : Int) : Int := if x < 0 then 0 else x
theorem max2_z (k k' : IntKind) (x : Int) : Builtin.max2 (.int k x) (.int k' 0) = pure (.int k (mxz x)) := Go.Proofs.YtggfjnicofgohaaW.PrintMore.max2_int k k' x 0
end Go.Proofs.Ytggfjnicofgohaa.Sf
