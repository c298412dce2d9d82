import Derived.Test.YtbodppjponepgaaProg
import Derived.Deep.Slices
import Derived.Deep.Fields
import Derived.ChangeSame
import Derived.Lib.SmallJoins
import Derived.ProofKit
import Derived.OpenShut
namespace Go.Proofs.Ytbodppjponepgaa.Op
open Go.ChangeShapes Go.WideShapes Go.RowKit Go.Deep
set_option linter.unusedVariables false

/-- A call of a script. -/
structure Cl where
  d : Int
  una : Int
  next : Int
  n : Int
  f : Int
structure Cl.Ok (c : Cl) : Prop where
  d : 0 ≤ c.d ∧ c.d ≤ 255
  una : 0 ≤ c.una ∧ c.una ≤ 4294967295
  next : 0 ≤ c.next ∧ c.next ≤ 4294967295
  n : -9223372036854775808 ≤ c.n ∧ c.n ≤ 9223372036854775807
  f : -9223372036854775808 ≤ c.f ∧ c.f ≤ 9223372036854775807
/-- A script that came in. -/
def Script (w : World) (a : Option Addr) (len : Nat) (z : Nat → Cl) : Prop :=
  len = 0 ∨ ∃ b off, a = some ⟨b, off, none⟩ ∧ ∀ i, i < len → (z i).Ok ∧ w.cell? ⟨b, off + i * 5, none⟩ = some (.int .u8 (z i).d) ∧ w.cell? ⟨b, off + i * 5 + 1, none⟩ = some (.int .u32 (z i).una) ∧ w.cell? ⟨b, off + i * 5 + 2, none⟩ = some (.int .u32 (z i).next) ∧ w.cell? ⟨b, off + i * 5 + 3, none⟩ = some (.int .i64 (z i).n) ∧ w.cell? ⟨b, off + i * 5 + 4, none⟩ = some (.int .i64 (z i).f)

theorem cell_spot {w : World} {a : Addr} {v : Value} (h : w.cell? a = some v) : a.spot = none := by
  unfold World.cell? at h
  split at h
  · split at h
    · cases h
    · rename_i hs; cases hsp : a.spot with
      | none => rfl
      | some x => rw [hsp] at hs; exact absurd rfl hs
  · cases h
theorem add_plain (b o k : Nat) : (⟨b, o, none⟩ : Addr).add k = ⟨b, o + k, none⟩ := by
  unfold Addr.add; split <;> simp_all

section
variable {H : Type} {enc : TypeId × Value → H} {P : Program} {w : World} {base : Nat} {spare : Nat → Bool} {held : Bool}
theorem open_slice_fields {t e : TypeId} {fs : Array Field} {fuel : Nat} {cs : List Value} {x : DataW H × List MemPlace} (ht : P.underlying t = some (.slice e)) (he : P.underlying e = some (.struct fs))
    (hone : oneCellFields P fs = true) (hC : P.cellsOf e = fs.size) (h : DataW.trod enc P w base spare held fuel t cs = some x) :
    (cs = [.slice none 0 0] ∧ x = (.nil, [])) ∨
    ∃ (a : Addr) (len cap m : Nat) (D : Nat → DataW H) (Pl : Nat → List MemPlace), cs = [.slice (some a) len cap] ∧ base ≤ a.block ∧ len ≤ cap ∧ cap ≤ maxLen ∧ m = (if spare a.block then cap else len) ∧
      x = (.slice ((List.range len).map D) ((List.range (m - len)).map fun j => D (len + j)), MemPlace.row a (m * fs.size) ++ (List.range m).flatMap Pl) ∧
      ∀ i, i < m → ∃ (ys : List (DataW H × List MemPlace)) (n : Nat), D i = .agg (ys.map (·.1)) ∧ Pl i = ys.flatMap (·.2) ∧ ys.length = fs.size ∧
        ∀ (j : Nat) (f : Field), fs[j]? = some f → ∃ (v : Value) (y : DataW H × List MemPlace), w.cell? (a.add (i * fs.size + j)) = some v ∧ ys[j]? = some y ∧ DataW.trod enc P w base spare held n f.type [v] = some y := by
  rcases open_slice ht h with h0 | ⟨a, len, cap, m, n, D, Pl, hcs, hb, hl, hm, hmm, hx, hi⟩
  · exact .inl h0
  · refine .inr ⟨a, len, cap, m, D, Pl, hcs, hb, hl, hm, hmm, by rw [hC] at hx; exact hx, fun i him => ?_⟩
    obtain ⟨cs', hc, ht'⟩ := hi i him
    rw [hC] at hc
    obtain ⟨ys, n', hn', hy, hlen, hyl, hf⟩ := DataW.trod_struct he ht'
    obtain ⟨_, hcl, hat⟩ := World.cells?_some hc
    simp only [Prod.mk.injEq] at hy
    refine ⟨ys, n', hy.1, hy.2, hyl, fun j f hj => ?_⟩
    obtain ⟨ho, hk⟩ := hone_of hone j f hj
    have hjl : j < fs.size := (Array.getElem?_eq_some_iff.1 hj).1
    have hcell := hat j hjl
    have hv : cs'[j]? = some (cs'[j]'(by omega)) := List.getElem?_eq_getElem (by omega)
    have h1 := hf j f hj
    rw [ho, hk] at h1
    have hone' : (cs'.drop j).take 1 = [cs'[j]'(by omega)] := by
      rw [List.drop_eq_getElem_cons (by omega)]
      rfl
    rw [hone'] at h1
    have hys : ys[j]? = some (ys[j]'(by omega)) := List.getElem?_eq_getElem (by omega)
    refine ⟨_, _, ?_, hys, h1.trans hys⟩
    rw [← Go.Deep.add_add, hcell, hv]
end

section
variable {H : Type} {enc : TypeId × Value → H} {W : World} {base : Nat} {spare : Nat → Bool} {held : Bool}
theorem open_calls {r : Reach} {b0 : Nat} {v : Value} {d : DataW H} {p : List MemPlace} (hv : Value.okWide Try.prog W r b0 34 v) (h : DataW.Trod enc Try.prog W base spare held 34 v d p) :
    ∃ a len cap z, v = .slice a len cap ∧ Script W a len z ∧ len ≤ 9223372036854775807 := by
  obtain ⟨a, len, cap, rfl⟩ := okWide_slice Try.underlying34 hv
  obtain ⟨fuel, hf⟩ := h
  rcases open_slice_fields Try.underlying34 Try.underlying38 (by kernel_rfl) (by kernel_rfl) hf with ⟨hcs, _⟩ | ⟨x, l, c, m, D, Pl, hcs, _, hl, hm, hmm, _, hi⟩
  · simp [Value.cells] at hcs
    obtain ⟨rfl, rfl, rfl⟩ := hcs
    exact ⟨none, 0, 0, fun _ => ⟨0, 0, 0, 0, 0⟩, rfl, .inl rfl, by omega⟩
  · simp [Value.cells] at hcs
    obtain ⟨rfl, rfl, rfl⟩ := hcs
    have hlm : len ≤ m := by rw [hmm]; split <;> omega
    have key : ∀ i, i < len → ∃ y : Cl, y.Ok ∧ W.cell? (x.add (i * 5)) = some (.int .u8 y.d) ∧ W.cell? (x.add (i * 5 + 1)) = some (.int .u32 y.una) ∧ W.cell? (x.add (i * 5 + 2)) = some (.int .u32 y.next) ∧ W.cell? (x.add (i * 5 + 3)) = some (.int .i64 y.n) ∧ W.cell? (x.add (i * 5 + 4)) = some (.int .i64 y.f) := by
      intro i hil
      obtain ⟨ys, n, _, _, _, hfld⟩ := hi i (by omega)
      obtain ⟨v0, y0, c0, _, t0⟩ := hfld 0 _ rfl
      obtain ⟨v1, y1, c1, _, t1⟩ := hfld 1 _ rfl
      obtain ⟨v2, y2, c2, _, t2⟩ := hfld 2 _ rfl
      obtain ⟨v3, y3, c3, _, t3⟩ := hfld 3 _ rfl
      obtain ⟨v4, y4, c4, _, t4⟩ := hfld 4 _ rfl
      obtain ⟨n0, e0, _, w0⟩ := DataW.trod_int Try.underlying5 t0
      obtain ⟨n1, e1, _, w1⟩ := DataW.trod_int Try.underlying23 t1
      obtain ⟨n2, e2, _, w2⟩ := DataW.trod_int Try.underlying23 t2
      obtain ⟨n3, e3, _, w3⟩ := DataW.trod_int Try.underlying3 t3
      obtain ⟨n4, e4, _, w4⟩ := DataW.trod_int Try.underlying3 t4
      simp only [List.cons.injEq, and_true] at e0 e1 e2 e3 e4
      subst e0 e1 e2 e3 e4
      exact ⟨⟨n0, n1, n2, n3, n4⟩, ⟨bounds_u8 w0, bounds_u32 w1, bounds_u32 w2, bounds_i64 w3, bounds_i64 w4⟩, c0, c1, c2, c3, c4⟩
    have hmx : len ≤ 9223372036854775807 := by unfold maxLen at hm; omega
    by_cases h0 : len = 0
    · exact ⟨_, len, cap, fun _ => ⟨0, 0, 0, 0, 0⟩, rfl, .inl h0, hmx⟩
    · obtain ⟨y0, _, hc0, _⟩ := key 0 (by omega)
      have hsp := cell_spot hc0
      obtain ⟨b, o, sp⟩ := x
      have hsp' : sp = none := by
        cases sp with
        | none => rfl
        | some q => unfold Addr.add at hsp; simp at hsp
      subst hsp'
      obtain ⟨z, hz⟩ : ∃ z : Nat → Cl, ∀ i, i < len → (z i).Ok ∧ W.cell? (Addr.add ⟨b, o, none⟩ (i * 5)) = some (.int .u8 (z i).d) ∧ W.cell? (Addr.add ⟨b, o, none⟩ (i * 5 + 1)) = some (.int .u32 (z i).una) ∧ W.cell? (Addr.add ⟨b, o, none⟩ (i * 5 + 2)) = some (.int .u32 (z i).next) ∧ W.cell? (Addr.add ⟨b, o, none⟩ (i * 5 + 3)) = some (.int .i64 (z i).n) ∧ W.cell? (Addr.add ⟨b, o, none⟩ (i * 5 + 4)) = some (.int .i64 (z i).f) :=
        ⟨fun i => if h : i < len then (key i h).choose else ⟨0, 0, 0, 0, 0⟩, fun i hil => by dsimp only; rw [dif_pos hil]; exact (key i hil).choose_spec⟩
      simp only [add_plain, ← Nat.add_assoc] at hz
      exact ⟨_, len, cap, z, rfl, .inr ⟨b, o, rfl, hz⟩, hmx⟩
end
end Go.Proofs.Ytbodppjponepgaa.Op
