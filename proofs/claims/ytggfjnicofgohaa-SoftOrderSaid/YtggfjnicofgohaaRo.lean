import Derived.Test.YtggfjnicofgohaaProg
import Derived.Deep.Slices
import Derived.Deep.Fields
import Derived.ChangeSame
import Derived.Lib.SmallJoins
import Derived.ProofKit
import Derived.OpenShut
import Derived.SizedLaws
import Derived.Test.YtggfjnicofgohaaRd
namespace Go.Proofs.Ytggfjnicofgohaa.Op
open Go.ChangeShapes Go.WideShapes Go.RowKit Go.Deep
set_option linter.unusedVariables false

/-- A step of a script. -/
structure Stp where
  d : Int
  core : Int
  hash : Int
  id : Int
  on : List Int
  A : Option Addr
  c : Nat
structure Stp.Ok (c : Stp) : Prop where
  core : -9223372036854775808 ≤ c.core ∧ c.core ≤ 9223372036854775807
  hash : 0 ≤ c.hash ∧ c.hash ≤ 4294967295
  len : c.on.length ≤ 17592186044416
/-- A script that came in. -/
def Script (w : World) (a : Option Addr) (len : Nat) (z : Nat → Stp) : Prop :=
  len = 0 ∨ ∃ b off, a = some ⟨b, off, none⟩ ∧ ∀ i, i < len → (z i).Ok ∧ w.cell? ⟨b, off + i * 5, none⟩ = some (.int .i64 (z i).d) ∧ w.cell? ⟨b, off + i * 5 + 1, none⟩ = some (.int .i64 (z i).core) ∧ w.cell? ⟨b, off + i * 5 + 2, none⟩ = some (.int .u32 (z i).hash) ∧ w.cell? ⟨b, off + i * 5 + 3, none⟩ = some (.int .u64 (z i).id) ∧ w.cell? ⟨b, off + i * 5 + 4, none⟩ = some (.slice (z i).A (z i).on.length (z i).c) ∧ Sf.Raw w (z i).A (z i).on

theorem cell_spot {w : World} {a : Addr} {v : Value} (h : w.cell? a = some v) : a.spot = none := by
  unfold World.cell? at h
  split at h
  · split at h
    · cases h
    · rename_i hs; cases hsp : a.spot with
      | none => rfl
      | some x => rw [hsp] at hs; exact absurd rfl hs
  · cases h
theorem add_plain (b o k : Nat) : (⟨b, o, none⟩ : Addr).add k = ⟨b, o + k, none⟩ := by
  unfold Addr.add; split <;> simp_all

section
variable {H : Type} {enc : TypeId × Value → H} {P : Program} {w : World} {base : Nat} {spare : Nat → Bool} {held : Bool}
theorem open_slice_fields {t e : TypeId} {fs : Array Field} {fuel : Nat} {cs : List Value} {x : DataW H × List MemPlace} (ht : P.underlying t = some (.slice e)) (he : P.underlying e = some (.struct fs))
    (hone : oneCellFields P fs = true) (hC : P.cellsOf e = fs.size) (h : DataW.trod enc P w base spare held fuel t cs = some x) :
    (cs = [.slice none 0 0] ∧ x = (.nil, [])) ∨
    ∃ (a : Addr) (len cap m : Nat) (D : Nat → DataW H) (Pl : Nat → List MemPlace), cs = [.slice (some a) len cap] ∧ base ≤ a.block ∧ len ≤ cap ∧ cap ≤ maxLen ∧ m = (if spare a.block then cap else len) ∧
      x = (.slice ((List.range len).map D) ((List.range (m - len)).map fun j => D (len + j)), MemPlace.row a (m * fs.size) ++ (List.range m).flatMap Pl) ∧
      ∀ i, i < m → ∃ (ys : List (DataW H × List MemPlace)) (n : Nat), D i = .agg (ys.map (·.1)) ∧ Pl i = ys.flatMap (·.2) ∧ ys.length = fs.size ∧
        ∀ (j : Nat) (f : Field), fs[j]? = some f → ∃ (v : Value) (y : DataW H × List MemPlace), w.cell? (a.add (i * fs.size + j)) = some v ∧ ys[j]? = some y ∧ DataW.trod enc P w base spare held n f.type [v] = some y := by
  rcases open_slice ht h with h0 | ⟨a, len, cap, m, n, D, Pl, hcs, hb, hl, hm, hmm, hx, hi⟩
  · exact .inl h0
  · refine .inr ⟨a, len, cap, m, D, Pl, hcs, hb, hl, hm, hmm, by rw [hC] at hx; exact hx, fun i him => ?_⟩
    obtain ⟨cs', hc, ht'⟩ := hi i him
    rw [hC] at hc
    obtain ⟨ys, n', hn', hy, hlen, hyl, hf⟩ := DataW.trod_struct he ht'
    obtain ⟨_, hcl, hat⟩ := World.cells?_some hc
    simp only [Prod.mk.injEq] at hy
    refine ⟨ys, n', hy.1, hy.2, hyl, fun j f hj => ?_⟩
    obtain ⟨ho, hk⟩ := hone_of hone j f hj
    have hjl : j < fs.size := (Array.getElem?_eq_some_iff.1 hj).1
    have hcell := hat j hjl
    have hv : cs'[j]? = some (cs'[j]'(by omega)) := List.getElem?_eq_getElem (by omega)
    have h1 := hf j f hj
    rw [ho, hk] at h1
    have hone' : (cs'.drop j).take 1 = [cs'[j]'(by omega)] := by
      rw [List.drop_eq_getElem_cons (by omega)]
      rfl
    rw [hone'] at h1
    have hys : ys[j]? = some (ys[j]'(by omega)) := List.getElem?_eq_getElem (by omega)
    refine ⟨_, _, ?_, hys, h1.trans hys⟩
    rw [← Go.Deep.add_add, hcell, hv]
end

section
variable {H : Type} {enc : TypeId × Value → H} {W : World} {base : Nat} {spare : Nat → Bool} {held : Bool}
theorem weightsAll_mem {P : Program} {e : TypeId} : ∀ {l : List (DataW H)} {d : DataW H}, d ∈ l → ∀ n ∈ d.weights P e, n ∈ DataW.weightsAll P e l
  | x :: l, d, hd, n, hn => by
    rw [DataW.weightsAll, List.mem_append]
    rcases List.mem_cons.1 hd with rfl | hd
    · exact .inl hn
    · exact .inr (weightsAll_mem hd n hn)
theorem open_on {n : Nat} {v : Value} {y : DataW H × List MemPlace} (h : DataW.trod enc Try.prog W base spare held n 33 [v] = some y) :
    ∃ A c on, v = .slice A (List.length on) c ∧ Sf.Raw W A on ∧ (on.length = 0 ∨ ∃ u v : List (DataW H), y.1 = .slice u v ∧ u.length + v.length ≥ on.length) := by
  rcases open_ints Try.underlying33 Try.underlying3 (by kernel_rfl) h with ⟨hcs, _⟩ | ⟨x, len, cap, zs, hcs, _, hl, hm, hz, hx, hcell, hwf⟩
  · simp only [List.cons.injEq, and_true] at hcs
    exact ⟨none, 0, [], hcs, .inl rfl, .inl rfl⟩
  · simp only [List.cons.injEq, and_true] at hcs
    have hlz : len ≤ zs.length := by rw [hz]; split <;> omega
    have hlen : (zs.take len).length = len := by rw [List.length_take]; omega
    refine ⟨some x, cap, zs.take len, by rw [hlen]; exact hcs, ?_, .inr ⟨lits .i64 (zs.take len), lits .i64 (zs.drop len), by rw [hx], by simp [lits]⟩⟩
    by_cases h0 : len = 0
    · exact .inl (by rw [hlen]; exact h0)
    · have hc0 := hcell 0 (by omega)
      have hsp := cell_spot hc0
      obtain ⟨b, o, sp⟩ := x
      have hsp' : sp = none := by
        cases sp with
        | none => rfl
        | some q => unfold Addr.add at hsp; simp at hsp
      subst hsp'
      refine .inr ⟨b, o, rfl, fun j u hu => ?_⟩
      have hj : j < len := by have := (List.getElem?_eq_some_iff.1 hu).1; omega
      have h1 := hcell j (by omega)
      rw [add_plain] at h1
      rw [h1]
      rw [List.getElem?_take_of_lt hj, List.getElem?_eq_getElem (by omega)] at hu
      injection hu with hu
      rw [← hu, List.getD_eq_getElem?_getD, List.getElem?_eq_getElem (by omega)]
      rfl
theorem open_steps {ts : List TypeId} {ds : List (DataW H)} {j : Nat} {r : Reach} {b0 : Nat} {v : Value} {d : DataW H} {p : List MemPlace} (hsz : (DataW.weightsEach Try.prog ts ds).all (· ≤ reachBytes) = true) (ht : ts[j]? = some 22) (hd : ds[j]? = some d)
    (hv : Value.okWide Try.prog W r b0 22 v) (h : DataW.Trod enc Try.prog W base spare held 22 v d p) :
    ∃ a len cap z, v = .slice a len cap ∧ Script W a len z ∧ len ≤ 9223372036854775807 := by
  obtain ⟨a, len, cap, rfl⟩ := okWide_slice Try.underlying22 hv
  obtain ⟨fuel, hf⟩ := h
  rcases open_slice_fields Try.underlying22 Try.underlying35 (by kernel_rfl) (by kernel_rfl) hf with ⟨hcs, _⟩ | ⟨x, l, c, m, D, Pl, hcs, _, hl, hm, hmm, hx, hi⟩
  · simp [Value.cells] at hcs
    obtain ⟨rfl, rfl, rfl⟩ := hcs
    exact ⟨none, 0, 0, fun _ => ⟨0, 0, 0, 0, [], none, 0⟩, rfl, .inl rfl, by omega⟩
  · simp [Value.cells] at hcs
    obtain ⟨rfl, rfl, rfl⟩ := hcs
    have hlm : len ≤ m := by rw [hmm]; split <;> omega
    have hdx : d = .slice ((List.range len).map D) ((List.range (m - len)).map fun j => D (len + j)) := (Prod.mk.inj hx).1
    have key : ∀ i, i < len → ∃ y : Stp, y.Ok ∧ W.cell? (x.add (i * 5)) = some (.int .i64 y.d) ∧ W.cell? (x.add (i * 5 + 1)) = some (.int .i64 y.core) ∧ W.cell? (x.add (i * 5 + 2)) = some (.int .u32 y.hash) ∧ W.cell? (x.add (i * 5 + 3)) = some (.int .u64 y.id) ∧ W.cell? (x.add (i * 5 + 4)) = some (.slice y.A y.on.length y.c) ∧ Sf.Raw W y.A y.on := by
      intro i hil
      obtain ⟨ys, n, hD, _, _, hfld⟩ := hi i (by omega)
      obtain ⟨v0, y0, c0, _, t0⟩ := hfld 0 _ rfl
      obtain ⟨v1, y1, c1, _, t1⟩ := hfld 1 _ rfl
      obtain ⟨v2, y2, c2, _, t2⟩ := hfld 2 _ rfl
      obtain ⟨v3, y3, c3, _, t3⟩ := hfld 3 _ rfl
      obtain ⟨v4, y4, c4, g4, t4⟩ := hfld 4 _ rfl
      obtain ⟨n0, e0, _, w0⟩ := DataW.trod_int Try.underlying3 t0
      obtain ⟨n1, e1, _, w1⟩ := DataW.trod_int Try.underlying3 t1
      obtain ⟨n2, e2, _, w2⟩ := DataW.trod_int Try.underlying31 t2
      obtain ⟨n3, e3, _, w3⟩ := DataW.trod_int Try.underlying32 t3
      obtain ⟨A, cc, on, e4, hraw, hw⟩ := open_on t4
      simp only [List.cons.injEq, and_true] at e0 e1 e2 e3
      subst e0 e1 e2 e3 e4
      have hon : on.length ≤ 17592186044416 := by
        rcases hw with h0 | ⟨u, v, hy, hge⟩
        · omega
        · have h1 : (u.length + v.length) * Try.prog.bytesOf 3 ∈ (D i).weights Try.prog 35 := by
            rw [hD, DataW.weights, Try.underlying35]
            refine DataW.weights_mem_each (j := 4) rfl (d := y4.1) (by rw [List.getElem?_map, g4]; rfl) _ ?_
            rw [hy, DataW.weights, Try.underlying33]
            exact List.mem_cons_self
          have h2 : (u.length + v.length) * Try.prog.bytesOf 3 ∈ d.weights Try.prog 22 := by
            rw [hdx, DataW.weights, Try.underlying22]
            refine List.mem_cons_of_mem _ (List.mem_append_left _ (weightsAll_mem (d := D i) (List.mem_map.2 ⟨i, List.mem_range.2 hil, rfl⟩) _ h1))
          have h3 := List.all_eq_true.1 hsz _ (DataW.weights_mem_each ht hd _ h2)
          have h4 : (u.length + v.length) * 8 ≤ reachBytes := by
            have : Try.prog.bytesOf 3 = 8 := by kernel_rfl
            rw [this] at h3
            simpa using h3
          unfold reachBytes at h4
          omega
      exact ⟨⟨n0, n1, n2, n3, on, A, cc⟩, ⟨bounds_i64 w1, bounds_u32 w2, hon⟩, c0, c1, c2, c3, c4, hraw⟩
    have hmx : len ≤ 9223372036854775807 := by unfold maxLen at hm; omega
    by_cases h0 : len = 0
    · exact ⟨_, len, cap, fun _ => ⟨0, 0, 0, 0, [], none, 0⟩, rfl, .inl h0, hmx⟩
    · obtain ⟨y0, _, hc0, _⟩ := key 0 (by omega)
      have hsp := cell_spot hc0
      obtain ⟨b, o, sp⟩ := x
      have hsp' : sp = none := by
        cases sp with
        | none => rfl
        | some q => unfold Addr.add at hsp; simp at hsp
      subst hsp'
      obtain ⟨z, hz⟩ : ∃ z : Nat → Stp, ∀ i, i < len → (z i).Ok ∧ W.cell? (Addr.add ⟨b, o, none⟩ (i * 5)) = some (.int .i64 (z i).d) ∧ W.cell? (Addr.add ⟨b, o, none⟩ (i * 5 + 1)) = some (.int .i64 (z i).core) ∧ W.cell? (Addr.add ⟨b, o, none⟩ (i * 5 + 2)) = some (.int .u32 (z i).hash) ∧ W.cell? (Addr.add ⟨b, o, none⟩ (i * 5 + 3)) = some (.int .u64 (z i).id) ∧ W.cell? (Addr.add ⟨b, o, none⟩ (i * 5 + 4)) = some (.slice (z i).A (z i).on.length (z i).c) ∧ Sf.Raw W (z i).A (z i).on :=
        ⟨fun i => if h : i < len then (key i h).choose else ⟨0, 0, 0, 0, [], none, 0⟩, fun i hil => by dsimp only; rw [dif_pos hil]; exact (key i hil).choose_spec⟩
      simp only [add_plain, ← Nat.add_assoc] at hz
      exact ⟨_, len, cap, z, rfl, .inr ⟨b, o, rfl, hz⟩, hmx⟩
end
end Go.Proofs.Ytggfjnicofgohaa.Op
