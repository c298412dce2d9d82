import Derived.Test.YtbpinkelcbcpjaaProg
import Derived.Deep.Slices
import Derived.Deep.Fields
import Derived.ChangeSame
import Derived.Lib.SmallJoins
import Derived.ProofKit
import Derived.OpenShut
import Derived.SizedLaws
import Derived.SliceStrings
namespace Go.Proofs.Ytbpinkelcbcpjaa.Op
open Go.ChangeShapes Go.WideShapes Go.RowKit Go.Deep
set_option linter.unusedVariables false

/-- A step of a script. -/
structure Stp where
  d : Int
  hash : Int
  s : ByteArray
  q : Int
  n : Int
  odd : Bool
structure Stp.Ok (c : Stp) : Prop where
  hash : 0 ≤ c.hash ∧ c.hash ≤ 4294967295
  len : c.s.size ≤ 140737488355328
  q : -9223372036854775808 ≤ c.q ∧ c.q ≤ 9223372036854775807
  n : -9223372036854775808 ≤ c.n ∧ c.n ≤ 9223372036854775807
def xz : Stp := ⟨0, 0, ByteArray.empty, 0, 0, false⟩
/-- A script that came in. -/
def Script (w : World) (a : Option Addr) (len : Nat) (z : Nat → Stp) : Prop :=
  len = 0 ∨ ∃ b off, a = some ⟨b, off, none⟩ ∧ ∀ i, i < len → (z i).Ok ∧ w.cell? ⟨b, off + i * 6, none⟩ = some (.int .i64 (z i).d) ∧ w.cell? ⟨b, off + i * 6 + 1, none⟩ = some (.int .u32 (z i).hash) ∧ w.cell? ⟨b, off + i * 6 + 2, none⟩ = some (.string (z i).s) ∧ w.cell? ⟨b, off + i * 6 + 3, none⟩ = some (.int .i64 (z i).q) ∧ w.cell? ⟨b, off + i * 6 + 4, none⟩ = some (.int .i64 (z i).n) ∧ w.cell? ⟨b, off + i * 6 + 5, none⟩ = some (.bool (z i).odd)
/-- Texts that came in. -/
def Texts (w : World) (a : Option Addr) (len : Nat) (z : Nat → ByteArray) : Prop :=
  len = 0 ∨ ∃ b off, a = some ⟨b, off, none⟩ ∧ ∀ i, i < len → (z i).size ≤ 140737488355328 ∧ w.cell? ⟨b, off + i, none⟩ = some (.string (z i))

theorem cell_spot {w : World} {a : Addr} {v : Value} (h : w.cell? a = some v) : a.spot = none := by
  unfold World.cell? at h
  split at h
  · split at h
    · cases h
    · rename_i hs; cases hsp : a.spot with
      | none => rfl
      | some x => rw [hsp] at hs; exact absurd rfl hs
  · cases h
theorem add_plain (b o k : Nat) : (⟨b, o, none⟩ : Addr).add k = ⟨b, o + k, none⟩ := by
  unfold Addr.add; split <;> simp_all

section
variable {H : Type} {enc : TypeId × Value → H} {P : Program} {w : World} {base : Nat} {spare : Nat → Bool} {held : Bool}
theorem open_slice_fields {t e : TypeId} {fs : Array Field} {fuel : Nat} {cs : List Value} {x : DataW H × List MemPlace} (ht : P.underlying t = some (.slice e)) (he : P.underlying e = some (.struct fs))
    (hone : oneCellFields P fs = true) (hC : P.cellsOf e = fs.size) (h : DataW.trod enc P w base spare held fuel t cs = some x) :
    (cs = [.slice none 0 0] ∧ x = (.nil, [])) ∨
    ∃ (a : Addr) (len cap m : Nat) (D : Nat → DataW H) (Pl : Nat → List MemPlace), cs = [.slice (some a) len cap] ∧ base ≤ a.block ∧ len ≤ cap ∧ cap ≤ maxLen ∧ m = (if spare a.block then cap else len) ∧
      x = (.slice ((List.range len).map D) ((List.range (m - len)).map fun j => D (len + j)), MemPlace.row a (m * fs.size) ++ (List.range m).flatMap Pl) ∧
      ∀ i, i < m → ∃ (ys : List (DataW H × List MemPlace)) (n : Nat), D i = .agg (ys.map (·.1)) ∧ Pl i = ys.flatMap (·.2) ∧ ys.length = fs.size ∧
        ∀ (j : Nat) (f : Field), fs[j]? = some f → ∃ (v : Value) (y : DataW H × List MemPlace), w.cell? (a.add (i * fs.size + j)) = some v ∧ ys[j]? = some y ∧ DataW.trod enc P w base spare held n f.type [v] = some y := by
  rcases open_slice ht h with h0 | ⟨a, len, cap, m, n, D, Pl, hcs, hb, hl, hm, hmm, hx, hi⟩
  · exact .inl h0
  · refine .inr ⟨a, len, cap, m, D, Pl, hcs, hb, hl, hm, hmm, by rw [hC] at hx; exact hx, fun i him => ?_⟩
    obtain ⟨cs', hc, ht'⟩ := hi i him
    rw [hC] at hc
    obtain ⟨ys, n', hn', hy, hlen, hyl, hf⟩ := DataW.trod_struct he ht'
    obtain ⟨_, hcl, hat⟩ := World.cells?_some hc
    simp only [Prod.mk.injEq] at hy
    refine ⟨ys, n', hy.1, hy.2, hyl, fun j f hj => ?_⟩
    obtain ⟨ho, hk⟩ := hone_of hone j f hj
    have hjl : j < fs.size := (Array.getElem?_eq_some_iff.1 hj).1
    have hcell := hat j hjl
    have hv : cs'[j]? = some (cs'[j]'(by omega)) := List.getElem?_eq_getElem (by omega)
    have h1 := hf j f hj
    rw [ho, hk] at h1
    have hone' : (cs'.drop j).take 1 = [cs'[j]'(by omega)] := by
      rw [List.drop_eq_getElem_cons (by omega)]
      rfl
    rw [hone'] at h1
    have hys : ys[j]? = some (ys[j]'(by omega)) := List.getElem?_eq_getElem (by omega)
    refine ⟨_, _, ?_, hys, h1.trans hys⟩
    rw [← Go.Deep.add_add, hcell, hv]
end

section
variable {H : Type} {enc : TypeId × Value → H} {W : World} {base : Nat} {spare : Nat → Bool} {held : Bool}
theorem weightsAll_mem {P : Program} {e : TypeId} : ∀ {l : List (DataW H)} {d : DataW H}, d ∈ l → ∀ n ∈ d.weights P e, n ∈ DataW.weightsAll P e l
  | x :: l, d, hd, n, hn => by
    rw [DataW.weightsAll, List.mem_append]
    rcases List.mem_cons.1 hd with rfl | hd
    · exact .inl hn
    · exact .inr (weightsAll_mem hd n hn)
theorem open_texts {ts : List TypeId} {ds : List (DataW H)} {j : Nat} {r : Reach} {b0 : Nat} {v : Value} {d : DataW H} {p : List MemPlace} (hsz : (DataW.weightsEach Try.prog ts ds).all (· ≤ reachBytes) = true) (ht : ts[j]? = some 45) (hd : ds[j]? = some d)
    (hv : Value.okWide Try.prog W r b0 45 v) (h : DataW.Trod enc Try.prog W base spare held 45 v d p) :
    ∃ a len cap z, v = .slice a len cap ∧ Texts W a len z ∧ len ≤ 9223372036854775807 := by
  obtain ⟨a, len, cap, rfl⟩ := okWide_slice Try.underlying45 hv
  obtain ⟨fuel, hf⟩ := h
  rcases open_strings Try.underlying45 Try.underlying9 (by kernel_rfl) hf with ⟨hcs, _⟩ | ⟨x, l, c, ss, hcs, _, hl, hm, hss, hx, hcell, _⟩
  · simp [Value.cells] at hcs
    obtain ⟨rfl, rfl, rfl⟩ := hcs
    exact ⟨none, 0, 0, fun _ => ByteArray.empty, rfl, .inl rfl, by omega⟩
  · simp [Value.cells] at hcs
    obtain ⟨rfl, rfl, rfl⟩ := hcs
    have hlm : len ≤ ss.length := by rw [hss]; split <;> omega
    have hdx : d = .slice (Go.ChangeShapes.strs (ss.take len)) (Go.ChangeShapes.strs (ss.drop len)) := (Prod.mk.inj hx).1
    have hmx : len ≤ 9223372036854775807 := by unfold maxLen at hm; omega
    by_cases h0 : len = 0
    · exact ⟨_, len, cap, fun _ => ByteArray.empty, rfl, .inl h0, hmx⟩
    · have hsp := cell_spot (hcell 0 (by omega))
      obtain ⟨b, o, sp⟩ := x
      have hsp' : sp = none := by
        cases sp with
        | none => rfl
        | some q => unfold Addr.add at hsp; simp at hsp
      subst hsp'
      refine ⟨_, len, cap, fun i => ss.getD i ByteArray.empty, rfl, .inr ⟨b, o, rfl, fun i hi => ⟨?_, ?_⟩⟩, hmx⟩
      · have hmem : (DataW.lit (.string (ss.getD i ByteArray.empty).data.toList) : DataW H) ∈ Go.ChangeShapes.strs (ss.take len) := by
          unfold Go.ChangeShapes.strs
          refine List.mem_map.2 ⟨ss.getD i ByteArray.empty, ?_, rfl⟩
          rw [List.getD_eq_getElem?_getD, List.getElem?_eq_getElem (by omega)]
          exact List.mem_take_iff_getElem.2 ⟨i, by omega, rfl⟩
        have h1 : (ss.getD i ByteArray.empty).data.toList.length ∈ d.weights Try.prog 45 := by
          rw [hdx, DataW.weights, Try.underlying45]
          exact List.mem_cons_of_mem _ (List.mem_append_left _ (weightsAll_mem hmem _ (by simp [DataW.weights])))
        have h2 := List.all_eq_true.1 hsz _ (DataW.weights_mem_each ht hd _ h1)
        have h3 : (ss.getD i ByteArray.empty).size ≤ reachBytes := by simpa using h2
        show (ss.getD i ByteArray.empty).size ≤ 140737488355328
        unfold reachBytes at h3
        omega
      · have := hcell i (by omega)
        rw [add_plain] at this
        exact this
theorem open_steps {ts : List TypeId} {ds : List (DataW H)} {j : Nat} {r : Reach} {b0 : Nat} {v : Value} {d : DataW H} {p : List MemPlace} (hsz : (DataW.weightsEach Try.prog ts ds).all (· ≤ reachBytes) = true) (ht : ts[j]? = some 22) (hd : ds[j]? = some d)
    (hv : Value.okWide Try.prog W r b0 22 v) (h : DataW.Trod enc Try.prog W base spare held 22 v d p) :
    ∃ a len cap z, v = .slice a len cap ∧ Script W a len z ∧ len ≤ 9223372036854775807 := by
  obtain ⟨a, len, cap, rfl⟩ := okWide_slice Try.underlying22 hv
  obtain ⟨fuel, hf⟩ := h
  rcases open_slice_fields Try.underlying22 Try.underlying34 (by kernel_rfl) (by kernel_rfl) hf with ⟨hcs, _⟩ | ⟨x, l, c, m, D, Pl, hcs, _, hl, hm, hmm, hx, hi⟩
  · simp [Value.cells] at hcs
    obtain ⟨rfl, rfl, rfl⟩ := hcs
    exact ⟨none, 0, 0, fun _ => xz, rfl, .inl rfl, by omega⟩
  · simp [Value.cells] at hcs
    obtain ⟨rfl, rfl, rfl⟩ := hcs
    have hlm : len ≤ m := by rw [hmm]; split <;> omega
    have hdx : d = .slice ((List.range len).map D) ((List.range (m - len)).map fun j => D (len + j)) := (Prod.mk.inj hx).1
    have key : ∀ i, i < len → ∃ y : Stp, y.Ok ∧ W.cell? (x.add (i * 6)) = some (.int .i64 y.d) ∧ W.cell? (x.add (i * 6 + 1)) = some (.int .u32 y.hash) ∧ W.cell? (x.add (i * 6 + 2)) = some (.string y.s) ∧ W.cell? (x.add (i * 6 + 3)) = some (.int .i64 y.q) ∧ W.cell? (x.add (i * 6 + 4)) = some (.int .i64 y.n) ∧ W.cell? (x.add (i * 6 + 5)) = some (.bool y.odd) := by
      intro i hil
      obtain ⟨ys, n, hD, _, _, hfld⟩ := hi i (by omega)
      obtain ⟨v0, y0, c0, _, t0⟩ := hfld 0 _ rfl
      obtain ⟨v1, y1, c1, _, t1⟩ := hfld 1 _ rfl
      obtain ⟨v2, y2, c2, g2, t2⟩ := hfld 2 _ rfl
      obtain ⟨v3, y3, c3, _, t3⟩ := hfld 3 _ rfl
      obtain ⟨v4, y4, c4, _, t4⟩ := hfld 4 _ rfl
      obtain ⟨v5, y5, c5, _, t5⟩ := hfld 5 _ rfl
      obtain ⟨n0, e0, _, w0⟩ := DataW.trod_int Try.underlying3 t0
      obtain ⟨n1, e1, _, w1⟩ := DataW.trod_int Try.underlying32 t1
      obtain ⟨s2, e2, x2, w2⟩ := DataW.trod_string Try.underlying9 t2
      obtain ⟨n3, e3, _, w3⟩ := DataW.trod_int Try.underlying3 t3
      obtain ⟨n4, e4, _, w4⟩ := DataW.trod_int Try.underlying3 t4
      obtain ⟨b5, e5, _⟩ := DataW.trod_bool Try.underlying4 t5
      simp only [List.cons.injEq, and_true] at e0 e1 e2 e3 e4 e5
      subst e0 e1 e2 e3 e4 e5
      have hs : s2.size ≤ 140737488355328 := by
        have h1 : s2.data.toList.length ∈ (D i).weights Try.prog 34 := by
          rw [hD, DataW.weights, Try.underlying34]
          refine DataW.weights_mem_each (j := 2) rfl (d := y2.1) (by rw [List.getElem?_map, g2]; rfl) _ ?_
          rw [x2]
          simp [DataW.weights]
        have h2 : s2.data.toList.length ∈ d.weights Try.prog 22 := by
          rw [hdx, DataW.weights, Try.underlying22]
          refine List.mem_cons_of_mem _ (List.mem_append_left _ (weightsAll_mem (d := D i) (List.mem_map.2 ⟨i, List.mem_range.2 hil, rfl⟩) _ h1))
        have h3 := List.all_eq_true.1 hsz _ (DataW.weights_mem_each ht hd _ h2)
        have h4 : s2.size ≤ reachBytes := by simpa using h3
        unfold reachBytes at h4
        omega
      exact ⟨⟨n0, n1, s2, n3, n4, b5⟩, ⟨bounds_u32 w1, hs, bounds_i64 w3, bounds_i64 w4⟩, c0, c1, c2, c3, c4, c5⟩
    have hmx : len ≤ 9223372036854775807 := by unfold maxLen at hm; omega
    by_cases h0 : len = 0
    · exact ⟨_, len, cap, fun _ => xz, rfl, .inl h0, hmx⟩
    · obtain ⟨y0, _, hc0, _⟩ := key 0 (by omega)
      have hsp := cell_spot hc0
      obtain ⟨b, o, sp⟩ := x
      have hsp' : sp = none := by
        cases sp with
        | none => rfl
        | some q => unfold Addr.add at hsp; simp at hsp
      subst hsp'
      obtain ⟨z, hz⟩ : ∃ z : Nat → Stp, ∀ i, i < len → (z i).Ok ∧ W.cell? (Addr.add ⟨b, o, none⟩ (i * 6)) = some (.int .i64 (z i).d) ∧ W.cell? (Addr.add ⟨b, o, none⟩ (i * 6 + 1)) = some (.int .u32 (z i).hash) ∧ W.cell? (Addr.add ⟨b, o, none⟩ (i * 6 + 2)) = some (.string (z i).s) ∧ W.cell? (Addr.add ⟨b, o, none⟩ (i * 6 + 3)) = some (.int .i64 (z i).q) ∧ W.cell? (Addr.add ⟨b, o, none⟩ (i * 6 + 4)) = some (.int .i64 (z i).n) ∧ W.cell? (Addr.add ⟨b, o, none⟩ (i * 6 + 5)) = some (.bool (z i).odd) :=
        ⟨fun i => if h : i < len then (key i h).choose else xz, fun i hil => by dsimp only; rw [dif_pos hil]; exact (key i hil).choose_spec⟩
      simp only [add_plain, ← Nat.add_assoc] at hz
      exact ⟨_, len, cap, z, rfl, .inr ⟨b, o, rfl, hz⟩, hmx⟩
end
end Go.Proofs.Ytbpinkelcbcpjaa.Op
