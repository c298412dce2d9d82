import Derived.Test.YtggfjnicofgohaaSg
namespace Go.Proofs.Ytggfjnicofgohaa.Sf
open Go.RowKit Blk Go.Proofs.YtggfjnicofgohaaW.PrintWords
set_option linter.unusedVariables false

/-- Are the first k of a list cores, each greater than the one ahead of it? -/
def upTo (n : Nat) (on : List Int) (k : Nat) : Prop := ∀ j, j < k → (0 ≤ on.getD j 0 ∧ on.getD j 0 < n) ∧ (j = 0 ∨ on.getD (j - 1) 0 < on.getD j 0)
instance (n : Nat) (on : List Int) (k : Nat) : Decidable (upTo n on k) := inferInstanceAs (Decidable (∀ j, j < k → _))
def St.cores (s : St) (on : List Int) : St × Int := if 1 ≤ on.length ∧ upTo s.n on on.length then ({ s with on := on }, 0) else (s, 2)
def CoresPost (base b r l : Nat) (rv : List Value) (s' : St) (w w' : World) : Prop := (∃ O', At w' base b r l rv O' s') ∧ Fr base l w w'
theorem fr_below {base l : Nat} {w w' : World} (h : Below w.heap.size w w') : Fr base l w w' :=
  ⟨h.os, h.tape, h.output, h.size, fun k _ hk => h.block k hk, fun k c t _ hc => h.block k (Array.getElem?_eq_some_iff.1 hc).1, fun k c _ hc => h.block k (Array.getElem?_eq_some_iff.1 hc).1, fun k es cl hc => h.block k (Array.getElem?_eq_some_iff.1 hc).1⟩
theorem keeps_below {T : TypeId → Prop} {w w' : World} (h : Below w.heap.size w w') : Keeps T w w' := fun k c t _ hc => h.block k (Array.getElem?_eq_some_iff.1 hc).1
theorem q_base {w : World} {base base' n size : Nat} {e : TypeId} {v : Value} {xs : List Value} (h : QRow w base e size v n xs) (hb : base' ≤ base) : QRow w base' e size v n xs := q_lower h hb

set_option maxHeartbeats 4000000 in
theorem cores_c {w : World} {base b r l : Nat} {rv : List Value} {O : Value} {s : St} (h : At w base b r l rv O s) (hn : s.n ≤ 8) (hbase : base ≤ w.heap.size) {base2 : Nat} (A : Option Addr) (c : Nat) (on : List Int) (hq : QRow w base2 3 1 (.slice A on.length c) on.length (on.map (Value.int .i64))) (hlen : on.length ≤ 1000000) :
    Calls Try.prog 11 #[.pointer (some ⟨b, 0, none⟩), .slice A on.length c] w fun e w' => e = .returned (.int .i64 (s.cores on).2) ∧ CoresPost base b r l rv (s.cores on).1 w w' := by
  have H := Lib.hid h
  have c1 := h.c1
  have c3 := h.c3
  have f3 := h.hb.free 3
  have hnil := nil60
  by_cases h0 : on.length = 0
  · have HS := Lib.hid (show s.cores on = (s, 2) from if_neg (by omega))
    rw [HS.out]
    rw [h0]
    clear h
    go_enter Try.func11, Try.ntmps11
    go_wp2
    go_step3
    go_wp2
    try rw [Exit.noGoto_ret]
    go_ret
    exact ⟨rfl, ⟨O, H.out⟩, Fr.refl _ _ _⟩
  obtain ⟨g, o, rfl, _, hc⟩ := q_at hq (by omega)
  have HC := Lib.hid hc
  have HQ := Lib.hid hq
  have hp0 : ((on.length : Nat) : Int) ≠ 0 := by omega
  have e0 := beq_eq_false_iff_ne.2 hp0
  have hlen1 : 1 ≤ on.length := by omega
  obtain ⟨AO, cO, rfl, _⟩ := q_slice h.ho
  clear h hc hq hp0 h0
  go_enter Try.func11, Try.ntmps11
  go_wp2
  go_step3
  go_wp2
  go_step3
  go_wp2
  go_loopg [21] on.length (fun gk vi wr => ∃ k : Nat, k + gk = on.length ∧ vi = .int .i64 k ∧ Hid (upTo s.n on k) ∧ w = wr)
  case atStart => exact ⟨0, by omega, rfl, Lib.hid (fun j hj => absurd hj (Nat.not_lt_zero j)), rfl⟩
  case round =>
    obtain ⟨k, hkg, rfl, hU, rfl⟩ := hrel
    by_cases hk : k < on.length
    · obtain ⟨x, hx⟩ : ∃ x, on.getD k 0 = x := ⟨_, rfl⟩
      have q0 : w.cell? ⟨g, o + k, none⟩ = some (.int .i64 x) := by
        rw [← hx]
        exact (HC.out k _ (by rw [List.getElem?_map, List.getD_eq_getElem?_getD, List.getElem?_eq_getElem hk]; rfl)).1
      have HX := Lib.hid hx
      clear hx
      by_cases hb : x < 0 ∨ (s.n : Int) ≤ x
      · have HS := Lib.hid (show s.cores on = (s, 2) from if_neg (fun y => by have := (y.2 k hk).1; rw [HX.out] at this; omega))
        have HM := Lib.hid (may_2 s.n x hb)
        clear hb
        go_wp2_with fail
        refine (may_c H.out x).mono ?_
        rintro e w' ⟨rfl, rfl⟩
        rw [HM.out]
        go_wp2
        try rw [Exit.noGoto_ret]
        go_ret
        exact ⟨by rw [HS.out]; rfl, by rw [HS.out]; exact ⟨_, H.out⟩, Fr.refl _ _ _⟩
      · have HM := Lib.hid (may_0 s.n x hb)
        have HBD := Lib.hid (show 0 ≤ x ∧ x < s.n by omega)
        clear hb
        by_cases hk0 : k = 0
        · have HK0 := Lib.hid hk0
          have p1 : ((k : Nat) : Int) == 0 := by rw [hk0]; rfl
          clear hk0
          go_wp2_with fail
          refine (may_c H.out x).mono ?_
          rintro e w' ⟨rfl, rfl⟩
          rw [HM.out]
          go_wp2
          go_roundg (on.length - (k + 1))
          case measure => omega
          case rel => exact ⟨k + 1, by omega, by go_num, Lib.hid (fun j hj => by
            have := HK0.out
            obtain rfl : j = k := by omega
            rw [HX.out]
            exact ⟨HBD.out, .inl this⟩), rfl⟩
        · obtain ⟨m, rfl⟩ : ∃ m, k = m + 1 := ⟨k - 1, by omega⟩
          clear hk0
          obtain ⟨y, hy⟩ : ∃ y, on.getD m 0 = y := ⟨_, rfl⟩
          have q1 : w.cell? ⟨g, o + m, none⟩ = some (.int .i64 y) := by
            rw [← hy]
            exact (HC.out m _ (by rw [List.getElem?_map, List.getD_eq_getElem?_getD, List.getElem?_eq_getElem (by omega)]; rfl)).1
          have HY := Lib.hid hy
          clear hy
          by_cases hxy : y < x
          · have HXY := Lib.hid hxy
            go_wp2_with fail
            refine (may_c H.out x).mono ?_
            rintro e w' ⟨rfl, rfl⟩
            rw [HM.out]
            go_wp2
            go_roundg (on.length - (m + 1 + 1))
            case measure => omega
            case rel => exact ⟨m + 1 + 1, by omega, by go_num, Lib.hid (fun j hj => by
              by_cases e : j = m + 1
              · subst e
                rw [HX.out, show m + 1 - 1 = m from rfl, HY.out]
                exact ⟨HBD.out, .inr HXY.out⟩
              · exact hU.out j (by omega)), rfl⟩
          · have HS := Lib.hid (show s.cores on = (s, 2) from if_neg (fun z => by have := (z.2 (m + 1) hk).2; rw [HX.out, show m + 1 - 1 = m from rfl, HY.out] at this; omega))
            have e2 : decide (y < x) = false := decide_eq_false hxy
            clear hxy
            go_wp2_with fail
            refine (may_c H.out x).mono ?_
            rintro e w' ⟨rfl, rfl⟩
            rw [HM.out]
            go_wp2
            try rw [Exit.noGoto_ret]
            go_ret
            exact ⟨by rw [HS.out]; rfl, by rw [HS.out]; exact ⟨_, H.out⟩, Fr.refl _ _ _⟩
    · obtain rfl : k = on.length := by omega
      have HS := Lib.hid (show s.cores on = ({ s with on := on }, 0) from if_pos ⟨hlen1, hU.out⟩)
      go_wp2_with fail
      refine (clone_c (some ⟨g, o, none⟩) c on HQ.out hlen1 hlen).mono ?_
      rintro e w1 ⟨A2, c2, rfl, hq2, hB⟩
      have c3' : w1.cell? ⟨b, 3, none⟩ = some _ := ((keeps_below (T := fun _ => True) hB).has trivial H.out.hb).cell rfl
      have f3' := ((keeps_below (T := fun _ => True) hB).has trivial H.out.hb).free 3
      have HA2 := Lib.hid (H.out.on (on' := on) (keeps_below hB) (q_lower hq2 hbase))
      have HF := Lib.hid (Fr.set (fr_below (base := base) (l := l) hB) ⟨b, 3, none⟩ (.slice A2 on.length c2) ((keeps_below (T := fun _ => True) hB).has trivial H.out.hb) H.out.gb (.inl rfl))
      clear hq2 hB c1 c3 f3
      go_wp2
      try rw [Exit.noGoto_ret]
      go_ret
      exact ⟨by rw [HS.out]; rfl, by rw [HS.out]; exact ⟨_, HA2.out⟩, HF.out⟩
end Go.Proofs.Ytggfjnicofgohaa.Sf
