import Derived.Test.YtggfjnicofgohaaSf6
namespace Go.Proofs.Ytggfjnicofgohaa.Sf
open Go.RowKit Blk Go.Proofs.YtggfjnicofgohaaW.PrintWords
set_option linter.unusedVariables false

theorem flat_at (row : List (Int × Int)) (k : Nat) (p : Int × Int) (h : row[k]? = some p) : (flat row)[k * 2]? = some (.int .u64 p.1) ∧ (flat row)[k * 2 + 1]? = some (.int .u32 p.2) := by
  induction row generalizing k with
  | nil => simp at h
  | cons q row ih =>
    rw [flat_cons]
    cases k with
    | zero => simp at h; subst h; exact ⟨rfl, rfl⟩
    | succ k =>
      rw [List.getElem?_cons_succ] at h
      obtain ⟨h1, h2⟩ := ih k h
      rw [show (k + 1) * 2 = k * 2 + 1 + 1 by omega, show k * 2 + 1 + 1 + 1 = (k * 2 + 1) + 1 + 1 by omega, List.getElem?_cons_succ, List.getElem?_cons_succ, List.getElem?_cons_succ, List.getElem?_cons_succ]
      exact ⟨h1, h2⟩
theorem row_cells {w : World} {base b r l : Nat} {rv : List Value} {O : Value} {s : St} (h : At w base b r l rv O s) (i : Nat) (g o c : Nat) (row : List (Int × Int)) (hrow : s.rows[i]? = some row) (hv : rv[i]? = some (.slice (some ⟨g, o, none⟩) row.length c)) (k : Nat) (p : Int × Int) (hp : row[k]? = some p) :
    w.cell? ⟨g, o + k * 2, none⟩ = some (.int .u64 p.1) ∧ w.cell? ⟨g, o + k * 2 + 1, none⟩ = some (.int .u32 p.2) := by
  have hkl : k < row.length := (List.getElem?_eq_some_iff.1 hp).1
  obtain ⟨g', o', e, _, hc⟩ := q_at (h.q i _ _ hv hrow) (by omega)
  simp only [Option.some.injEq, Addr.mk.injEq, and_true] at e
  obtain ⟨rfl, rfl⟩ := e
  obtain ⟨h1, h2⟩ := flat_at row k p hp
  exact ⟨(hc _ _ h1).1, by rw [Nat.add_assoc]; exact (hc _ _ h2).1⟩
theorem cntOf_snoc (l : List (Int × Int)) (p : Int × Int) (k : Int) : cntOf (l ++ [p]) k = cntOf l k + (if p.2 % 256 = k then 1 else 0) := by
  unfold cntOf
  rw [List.filter_append, List.length_append]
  by_cases h : p.2 % 256 = k <;> simp [h]
theorem cntOf_bd (l : List (Int × Int)) (k : Int) : 0 ≤ cntOf l k ∧ cntOf l k ≤ l.length := by
  unfold cntOf
  have := List.length_filter_le (fun p : Int × Int => decide (p.2 % 256 = k)) l
  omega
/-- While it counts. -/
def St.counting (s : St) (i j : Nat) (row' : List (Int × Int)) (v : Int) : St := { s with rows := s.rows.set i row', cnt := s.cnt.set j v, cor := s.cor.set j i }
theorem counting_set (s : St) (i j : Nat) (row' : List (Int × Int)) (v u : Int) : ({ s.counting i j row' v with cnt := (s.counting i j row' v).cnt.set j u } : St) = s.counting i j row' u := by
  unfold St.counting
  simp only [List.set_set]

set_option maxHeartbeats 8000000 in
theorem put_other {w : World} {base b r l : Nat} {rv : List Value} {O : Value} {s : St} (h : At w base b r l rv O s) (i : Nat) (hi : i < s.n) (hn : s.n ≤ 8) (hash id : Int) (hh : 0 ≤ hash ∧ hash ≤ 4294967295) (hf : ¬ s.most ≤ (s.rows.getD i []).length) (hm : s.most ≤ 256) (hbase : base ≤ w.heap.size)
    (hrk : ∀ p ∈ s.rows.getD i [], 0 ≤ p.2 ∧ p.2 ≤ 4294967295) (hcc : 0 ≤ s.cnt.getD (hash % 256).toNat 0 ∧ s.cnt.getD (hash % 256).toNat 0 ≤ 1000000) (hk : s.cor.getD (hash % 256).toNat 0 ≠ i) :
    Calls Try.prog 14 #[.pointer (some ⟨b, 0, none⟩), .int .i64 i, .int .u32 hash, .int .u64 id] w fun e w' => e = .returned (.int .i64 0) ∧ PutPost base b r l O { s with rows := s.rows.set i (s.rows.getD i [] ++ [(id, hash)]), cnt := s.cnt.set (hash % 256).toNat (cntOf (s.rows.getD i [] ++ [(id, hash)]) (hash % 256)), cor := s.cor.set (hash % 256).toNat i } w w' := by
  have H := Lib.hid h
  have c0 := h.c0
  have c1 := h.c1
  obtain ⟨A, c, row, hrow, hrv, cr, _, _⟩ := h.row i hi
  rw [getD_of hrow] at hf hrk ⊢
  have HRK := Lib.hid (show ∀ p ∈ row ++ [(id, hash)], 0 ≤ p.2 ∧ p.2 ≤ 4294967295 from fun p hp => by
    rcases List.mem_append.1 hp with hp | hp
    · exact hrk p hp
    · simp at hp; subst hp; exact hh)
  clear hrk
  have HM := Lib.hid (may_0 s.n (i : Int) (by omega))
  obtain ⟨j, hj⟩ := Int.eq_ofNat_of_zero_le (show 0 ≤ hash % 256 by omega)
  have hj2 : j < 256 := by omega
  rw [hj, Int.toNat_natCast] at hcc hk ⊢
  have HRow := Lib.hid hrow
  have HRv := Lib.hid hrv
  obtain ⟨y, hy⟩ : ∃ y, s.cnt.getD j 0 = y := ⟨_, rfl⟩
  rw [hy] at hcc
  have HY := Lib.hid hy
  obtain ⟨z, hz⟩ : ∃ z, s.cor.getD j 0 = z := ⟨_, rfl⟩
  rw [hz] at hk
  have HZ := Lib.hid hz
  have e1 : (z == (i : Int)) = false := beq_eq_false_iff_ne.2 hk
  have e2 : (z != (i : Int)) = true := by rw [bne, e1]; rfl
  clear h hrow hrv hy hz hk
  go_enter Try.func14, Try.ntmps14
  go_wp2_with fail
  refine (may_c H.out i).mono ?_
  rintro e w' ⟨rfl, rfl⟩
  rw [HM.out]
  go_wp2
  go_quiet (fail)
  have HA := H.out.move (keeps_drewN (fun t => t = 62 ∨ t = 65 ∨ t = 32 ∨ t = 3 ∨ t = 67) w nq)
  have HF := Lib.hid ((Fr.refl base l w).drewN nq)
  clear c0 c1 cr
  generalize w.drewN nq = W at *
  go_wp2
  obtain ⟨A', c', w1, hrun, r1, r2, r3, HA1, hF1⟩ := put_row HA i hi A c row HRow.out HRv.out (by omega) id hash (Nat.le_trans hbase HF.out.size)
  have HRUN := Lib.hid hrun
  have HF2 := Lib.hid (HF.out.trans hF1)
  have c1 := HA.c1
  have hbl := HA.hb.lt
  have hrl := HA.hr.lt
  have cr : W.cell? ⟨r, i, none⟩ = some (.slice A row.length c) := HA.hr.cell HRv.out
  have HA2 := Lib.hid HA1
  have c1' := HA1.c1
  have f4 := HA1.hb.free (4 + j)
  have ck' : (w1.setCell ⟨r, i, none⟩ (.slice A' (row.length + 1) c')).cell? ⟨b, 260 + j, none⟩ = some (.int .i64 z) := by rw [← HZ.out]; exact HA1.ck j hj2
  have cc' : (w1.setCell ⟨r, i, none⟩ (.slice A' (row.length + 1) c')).cell? ⟨b, 4 + j, none⟩ = some (.int .i64 y) := by rw [← HY.out]; exact HA1.cc j hj2
  have f5 := HA1.hb.free (260 + j)
  clear hrun hF1 HA HA1 HF
  go_wp2
  go_cut [] from 41 to 58 (fun wc => wc = w1.setCell ⟨r, i, none⟩ (.slice A' (row.length + 1) c'))
  case first =>
    go_region_law (refine step_app rfl (.tmp 52) (.tmp 56) 65 rfl (.slice A row.length c) (.slice (some ⟨W.heap.size, 0, none⟩) 1 1) (.slice A' (row.length + 1) c') _ w1 (by simp [Act.eval]) (by simp [Act.eval]) HRUN.out ?_)
    all_goals
      go_wp2_with fail
      go_meet
      case rel => rfl
  case rest =>
    subst hcut
    clear cr r1 r2 r3 c1 HRUN
    generalize w1.setCell ⟨r, i, none⟩ (.slice A' (row.length + 1) c') = W2 at *
    go_wp2
    go_region
    all_goals
      clear c1' ck' cc' f4 f5
      have HA3 : At _ base b r l (rv.set i (.slice A' (row.length + 1) c')) O (s.counting i j (row ++ [(id, hash)]) (cntOf ((row ++ [(id, hash)]).take 0) j)) := ((HA2.out.corSet j hj2 i).cntSet j hj2 0).move (keeps_drew _ _)
      have HF3 := Lib.hid ((Fr.set (Fr.set HF2.out ⟨b, 260 + j, none⟩ (.int .i64 i) HA2.out.hb HA2.out.gb (.inl rfl)) ⟨b, 4 + j, none⟩ (.int .i64 0) (HA2.out.corSet j hj2 i).hb HA2.out.gb (.inl rfl)).drew)
      have HQL := Lib.hid (HA3.q i _ (row ++ [(id, hash)]) (List.getElem?_set_self (by have := HA3.rvl; rw [List.length_set] at this; exact this ▸ hi)) (List.getElem?_set_self (by have := HA2.out.rowl; rw [List.length_set] at this; exact this ▸ hi)))
      clear HF2 HA2
      generalize World.drew _ = W3 at *
      have hlen' : (row ++ [(id, hash)]).length = row.length + 1 := by simp
      obtain ⟨g, o, eA, _, _⟩ := q_at (by have := HQL.out; rw [hlen'] at this; exact this) (Nat.succ_pos _)
      subst eA
      have c1 := HA3.c1
      have cr : W3.cell? ⟨r, i, none⟩ = some (.slice (some ⟨g, o, none⟩) (row.length + 1) c') := HA3.hr.cell (List.getElem?_set_self (by have := HA3.rvl; rw [List.length_set] at this; exact this ▸ hi))
      clear HQL
      have HRow' := Lib.hid hlen'
      clear hlen'
      have HAA := Lib.hid HA3
      clear HA3
      obtain ⟨row', hrow'⟩ : ∃ row', row' = row ++ [(id, hash)] := ⟨_, rfl⟩
      obtain ⟨n', hn'⟩ : ∃ n', n' = row.length + 1 := ⟨_, rfl⟩
      rw [← hrow'] at HAA HRow' HRK
      rw [← hn'] at HAA HRow' cr
      have hn257 : n' ≤ 257 := by omega
      have HN := Lib.hid hn'
      have HRR := Lib.hid hrow'
      clear hrow' hn'
      go_wp2
      clear c1 cr
      go_loopg [88] n' (fun gk vi wr => ∃ k : Nat, k + gk = n' ∧ vi = .int .i64 k ∧ Hid (At wr base b r l (rv.set i (.slice (some ⟨g, o, none⟩) n' c')) O (s.counting i j row' (cntOf (row'.take k) j))) ∧ Hid (Fr base l w wr))
      case atStart => exact ⟨0, by omega, rfl, HAA, HF3⟩
      case round =>
        clear HAA HF3
        obtain ⟨k, hkn, rfl, hA, hF⟩ := hrel
        by_cases hk : k < n'
        · have hkl : k < row'.length := by have := HRow'.out; omega
          obtain ⟨⟨pi, ph⟩, hp⟩ : ∃ p, row'[k]? = some p := ⟨_, List.getElem?_eq_getElem hkl⟩
          obtain ⟨q0, q1⟩ := row_cells hA.out i g o c' row' (List.getElem?_set_self (by have := hA.out.rowl; rw [show (s.counting i j row' (cntOf (row'.take k) j)).rows = s.rows.set i row' from rfl, List.length_set] at this; exact this ▸ hi)) (by have h1 := List.getElem?_set_self (a := Value.slice (some ⟨g, o, none⟩) n' c') (show i < rv.length by have := hA.out.rvl; rw [List.length_set] at this; exact this ▸ hi); rw [HRow'.out]; exact h1) k (pi, ph) hp
          have hph := HRK.out (pi, ph) (List.mem_of_getElem? hp)
          have htk : row'.take (k + 1) = row'.take k ++ [(pi, ph)] := by
            rw [List.take_succ_eq_append_getElem hkl]
            rw [List.getElem?_eq_getElem hkl] at hp
            injection hp with hp
            rw [hp]
          have hcs := cntOf_snoc (row'.take k) (pi, ph) j
          rw [← htk] at hcs
          have hbd := cntOf_bd (row'.take k) j
          have hle : (row'.take k).length ≤ k := List.length_take_le _ _
          obtain ⟨v, hv⟩ : ∃ v, v = cntOf (row'.take k) j := ⟨_, rfl⟩
          rw [← hv] at hA hcs hbd
          have cc := hA.out.cc j hj2
          rw [show (s.counting i j row' v).cnt.getD j 0 = v from by show (s.cnt.set j v).getD j 0 = v; rw [List.getD_eq_getElem?_getD, List.getElem?_set_self (by have := hA.out.cl; rw [show (s.counting i j row' v).cnt = s.cnt.set j v from rfl, List.length_set] at this; omega)]; rfl] at cc
          have f4 := hA.out.hb.free (4 + j)
          have hblt := hA.out.hb.lt
          dsimp only at q0 q1 hph hcs
          have HCS := Lib.hid hcs
          clear hp htk hcs hv hkl
          by_cases he : ph % 256 = (j : Int)
          · have e3 : (ph % 256 == (j : Int)) = true := by rw [he]; exact beq_self_eq_true _
            go_wp2
            go_region
            all_goals
              go_wp2
              go_roundg (n' - (k + 1))
              case measure => omega
              case rel => exact ⟨k + 1, by omega, by go_num, Lib.hid (by
                rw [HCS.out, if_pos he, ← counting_set s i j row' v (v + 1)]
                exact (hA.out.cntSet j hj2 (v + 1)).move (((Keeps.refl _ _).alloc _).drew)), Lib.hid (((Fr.set hF.out ⟨b, 4 + j, none⟩ (.int .i64 (v + 1)) hA.out.hb hA.out.gb (.inl rfl)).alloc _).drew)⟩
          · have e3 : (ph % 256 == (j : Int)) = false := beq_eq_false_iff_ne.2 he
            go_wp2
            go_roundg (n' - (k + 1))
            case measure => omega
            case rel => exact ⟨k + 1, by omega, by go_num, Lib.hid (by
              rw [HCS.out, if_neg he, Int.add_zero]
              exact hA.out.move ((Keeps.refl _ _).alloc _)), Lib.hid (hF.out.alloc _)⟩
        · obtain rfl : k = n' := by omega
          have HE := Lib.hid (show row'.take k = row' from List.take_of_length_le (by rw [HRow'.out]; exact Nat.le_refl _))
          go_wp2
          go_ret
          exact ⟨rfl, ⟨_, by have := hA.out; rw [HE.out, HRR.out] at this; exact this⟩, hF.out⟩
end Go.Proofs.Ytggfjnicofgohaa.Sf
