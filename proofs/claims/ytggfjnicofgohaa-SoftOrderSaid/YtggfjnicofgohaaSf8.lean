import Derived.Test.YtggfjnicofgohaaSf7
namespace Go.Proofs.Ytggfjnicofgohaa.Sf
open Go.RowKit Blk Go.Proofs.YtggfjnicofgohaaW.PrintWords
set_option linter.unusedVariables false

/-- What may be of the numbers that are kept; K: how many were put at most. -/
structure St.Ok (s : St) (K : Int) : Prop where
  n1 : 1 ≤ s.n
  n8 : s.n ≤ 8
  m1 : 1 ≤ s.most
  m256 : s.most ≤ 256
  len : ∀ i, (s.rows.getD i []).length ≤ s.most
  hash : ∀ i, ∀ p ∈ s.rows.getD i [], 0 ≤ p.2 ∧ p.2 ≤ 4294967295
  lost : ∀ i, 0 ≤ s.lost.getD i 0 ∧ s.lost.getD i 0 ≤ 18446744073709551615
  cnt : ∀ j, -K ≤ s.cnt.getD j 0 ∧ s.cnt.getD j 0 ≤ K
  k0 : 256 ≤ K

theorem put_c {w : World} {base b r l : Nat} {rv : List Value} {O : Value} {s : St} (h : At w base b r l rv O s) {K : Int} (ho : s.Ok K) (hK : K ≤ 1000000) (core hash id : Int) (hh : 0 ≤ hash ∧ hash ≤ 4294967295) (hbase : base ≤ w.heap.size) (hc0 : 0 ≤ s.cnt.getD (hash % 256).toNat 0) :
    Calls Try.prog 14 #[.pointer (some ⟨b, 0, none⟩), .int .i64 core, .int .u32 hash, .int .u64 id] w fun e w' => e = .returned (.int .i64 (s.put core hash id).2) ∧ PutPost base b r l O (s.put core hash id).1 w w' := by
  unfold St.put
  by_cases hc : core < 0 ∨ (s.n : Int) ≤ core
  · rw [if_pos hc]
    have H := Lib.hid h
    have HM := Lib.hid (may_2 _ _ hc)
    clear h hc
    go_enter Try.func14, Try.ntmps14
    go_wp2_with fail
    refine (may_c H.out core).mono ?_
    rintro e w' ⟨rfl, rfl⟩
    rw [HM.out]
    go_wp2
    go_ret
    exact ⟨rfl, ⟨rv, H.out⟩, Fr.refl _ _ _⟩
  rw [if_neg hc]
  obtain ⟨i, rfl⟩ := Int.eq_ofNat_of_zero_le (show 0 ≤ core by omega)
  rw [Int.toNat_natCast]
  have hi : i < s.n := by omega
  by_cases hf : s.most ≤ (s.rows.getD i []).length
  · rw [if_pos hf]
    exact put_full h i hi ho.n8 hash id hf ho.m1 (Nat.le_trans (ho.len i) ho.m256) (ho.lost i)
  rw [if_neg hf]
  by_cases hk : s.cor.getD (hash % 256).toNat 0 = i
  · rw [if_pos hk]
    exact put_same h i hi ho.n8 hash id hh hf ho.m256 hbase ⟨hc0, by have := (ho.cnt (hash % 256).toNat).2; omega⟩ hk
  · rw [if_neg hk]
    exact put_other h i hi ho.n8 hash id hh hf ho.m256 hbase (ho.hash i) ⟨hc0, by have := (ho.cnt (hash % 256).toNat).2; omega⟩ hk

/-- The first of a backlog goes. -/
theorem drop_row {w : World} {base b r l : Nat} {rv : List Value} {O : Value} {s : St} (h : At w base b r l rv O s) (i : Nat) (hi : i < s.n) (A : Option Addr) (c : Nat) (p : Int × Int) (row : List (Int × Int)) (hrow : s.rows[i]? = some (p :: row)) (hv : rv[i]? = some (.slice A (row.length + 1) c)) :
    At (w.setCell ⟨r, i, none⟩ (.slice (if c = 1 then A else A.map (·.add (1 * 2))) (row.length + 1 - 1) (c - 1))) base b r l (rv.set i (.slice (if c = 1 then A else A.map (·.add (1 * 2))) (row.length + 1 - 1) (c - 1))) O { s with rows := s.rows.set i row } := by
  have hq := h.q i _ _ hv hrow
  have hq1 := q_drop (k := 1) hq (by simp)
  refine h.rowSet i hi _ _ (Keeps.refl _ _) ?_ ?_
  · intro j v rw_ hj hvj hrj
    refine ⟨h.q j v rw_ hvj hrj, ?_⟩
    have hne := h.ne j i v _ hj hvj hv
    intro k hk e
    refine hne k hk ?_
    rw [← e]
    cases A with
    | none => split <;> rfl
    | some a => split <;> simp [Value.ownBlock, Addr.add] <;> (split <;> rfl)
  · exact hq1
def St.take (s : St) (core : Int) : St × Int × Int × Bool :=
  if core < 0 ∨ (s.n : Int) ≤ core then (s, 0, 0, false) else
  match s.rows.getD core.toNat [] with
  | [] => (s, 0, 0, false)
  | p :: row => if s.cor.getD (p.2 % 256).toNat 0 = core then ({ s with rows := s.rows.set core.toNat row, cnt := s.cnt.set (p.2 % 256).toNat (s.cnt.getD (p.2 % 256).toNat 0 - 1) }, p.1, p.2, true)
    else ({ s with rows := s.rows.set core.toNat row }, p.1, p.2, true)
end Go.Proofs.Ytggfjnicofgohaa.Sf
