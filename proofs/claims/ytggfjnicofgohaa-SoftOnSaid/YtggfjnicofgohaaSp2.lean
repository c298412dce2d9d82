import Derived.Test.YtggfjnicofgohaaSp
namespace Go.Proofs.Ytggfjnicofgohaa.Sf
open Go.RowKit Blk Go.Maps Go.ChangeMaps Go.Proofs.YtggfjnicofgohaaW.PrintWords
set_option linter.unusedVariables false
theorem Own.under {w0 w w' : World} {b : Nat} {s : St} (h : Own w0 b s w) (hb : Below w.heap.size w w') : Own w0 b s w' := by
  obtain ⟨r, l, rv, O, hA⟩ := h.is
  exact ⟨⟨r, l, rv, O, hA.move (keeps_below hb)⟩, h.below.trans (hb.mono h.below.size)⟩
/-- What is gathered. -/
def Gath (wN : World) (on : List Int) (v : Value) (w : World) : Prop := Below wN.heap.size wN w ∧ ∃ A c, v = .slice A on.length c ∧ QRow w wN.heap.size 3 1 (.slice A on.length c) on.length (on.map (Value.int .i64))
theorem gath_start (wN : World) : Gath wN [] (.slice none 0 0) wN := by
  refine ⟨Below.refl _ _, none, 0, rfl, ?_⟩
  exact ⟨rfl, .inl ⟨rfl, none, rfl, fun a h => by cases h⟩⟩
theorem gath_step {wN w : World} {on : List Int} {A : Option Addr} {c : Nat} (hb : Below wN.heap.size wN w) (hq : QRow w wN.heap.size 3 1 (.slice A on.length c) on.length (on.map (Value.int .i64))) (k : Int) (hl : on.length ≤ 1000) :
    ∃ A' c' w', (Builtin.append_ #[33, 33] 33 #[.slice A on.length c, .slice (some ⟨w.heap.size, 0, none⟩) 1 1]).run Try.prog (w.alloc (.cells #[.int .i64 k] 3)) = .ok (.slice A' (on.length + 1) c') w' ∧ Gath wN (on ++ [k]) (.slice A' (on.length + 1) c') w' := by
  have hs := hb.size
  obtain ⟨i0, hi, hz0, hz1, hz2⟩ := info_parts info3
  have hq1 : QRow (w.alloc (.cells #[.int .i64 k] 3)) wN.heap.size 3 1 (.slice A on.length c) on.length (on.map (Value.int .i64)) := ((Keeps.refl (fun _ => True) w).alloc _).q trivial hq
  obtain ⟨O', w1, hrun, hq', hg, hat⟩ := q_append (P := Try.prog) (w.alloc (.cells #[.int .i64 k] 3)) wN.heap.size 33 33 3 i0 (.int .i64 0) 1 8 Try.underlying33 hi hz0 hz1 hz2 rfl (by decide) _ _ _ hq1 ⟨w.heap.size, 0, none⟩ 1 1 [.int .i64 k] rfl
    (fun j u hu => by
      match j, hu with
      | 0, hu =>
        simp only [List.getElem?_cons_zero, Option.some.injEq] at hu
        subst hu
        rw [add_at]
        exact (Has.new w [.int .i64 k] 3).cell rfl
      | j + 1, hu => simp at hu)
    (fun u hu => by simp at hu; subst hu; rfl) (by decide) (by unfold maxLen; omega) (by omega) (by simp; omega)
  obtain ⟨A', c', rfl, _⟩ := q_slice hq'
  refine ⟨A', c', w1, hrun, (hb.alloc hs _).grown hg (by simp; omega) (fun j hj => (q_typed hq1 j hj).1), A', c', by simp, ?_⟩
  rw [show (on ++ [k]).length = on.length + 1 by simp, List.map_append]
  exact hq'
def tb (o : Int) (i : Nat) : Bool := decide (Go.bits BinOp.and .u8 (o / 2 ^ i) 1 = 1)
def St.lit (s : St) (on : List Int) : St := { s with on := on }
theorem cores_yes (n : Nat) (t : Nat → Bool) (h : 1 ≤ (bits t n).length) : (fresh n 5).cores (bits t n) = ((fresh n 5).lit (bits t n), 0) := if_pos ⟨h, bits_up t n⟩
theorem cores_no (n : Nat) (t : Nat → Bool) (h : ¬ 1 ≤ (bits t n).length) : (fresh n 5).cores (bits t n) = (fresh n 5, 2) := if_neg (fun x => h x.1)
theorem lit_target (n : Nat) (on : List Int) (hash : Int) : ((fresh n 5).lit on).target hash = coreOf hash on := by
  refine if_neg ?_
  show ¬ 0 < z256.getD (hash % 256).toNat 0
  rw [z_getD]
  decide
theorem core_bit (n : Nat) (t : Nat → Bool) (hash : Int) (hh : 0 ≤ hash ∧ hash ≤ 4294967295) (h : 1 ≤ (bits t n).length) : ∃ j : Nat, coreOf hash (bits t n) = j ∧ j < n ∧ t j = true := by
  have hj : ((hash * (bits t n).length) / 4294967296).toNat < (bits t n).length := by
    have : (hash * (bits t n).length) / 4294967296 < (bits t n).length := by
      rw [Int.ediv_lt_iff_lt_mul (by decide), Int.mul_comm]
      exact Int.mul_lt_mul_of_pos_left (by omega) (by omega)
    omega
  unfold coreOf
  rw [List.getD_eq_getElem?_getD, List.getElem?_eq_getElem hj]
  exact bits_mem t n _ (List.getElem_mem hj)
theorem bits_get (t : Nat → Bool) (n p : Nat) : 0 ≤ (bits t n).getD p 0 ∧ (bits t n).getD p 0 ≤ n := by
  rw [List.getD_eq_getElem?_getD]
  by_cases h : p < (bits t n).length
  · rw [List.getElem?_eq_getElem h]
    obtain ⟨j, hj, hjn, _⟩ := bits_mem t n _ (List.getElem_mem h)
    rw [show (some (bits t n)[p]).getD 0 = (bits t n)[p] from rfl, hj]
    omega
  · rw [List.getElem?_eq_none (by omega)]
    exact ⟨by decide, by simp⟩
/-- So many cores have been seen ahead of the k-th hash. -/
def jot (L k : Nat) : Nat := if k = 0 then 0 else plc L (k - 1) + 1
theorem jot_succ (L k : Nat) : jot L (k + 1) = plc L k + 1 := by unfold jot; simp
theorem jot_up {L k : Nat} (hL : L ≤ 64) : jot L k = plc L k ∨ jot L k = plc L k + 1 := by
  cases k with
  | zero => left; rw [plc_0]; rfl
  | succ k => rw [jot_succ]; rcases plc_up (k := k) hL with h | h <;> omega
theorem key_step {D : DataW Nat} {on : List Int} {k : Nat} (h : Keys D (on.take (jot on.length k))) (h1 : 1 ≤ on.length) (h8 : on.length ≤ 64) (hp : on.Pairwise (· < ·)) (hk : k < 64) (v : DataW Nat) :
    Keys (D.put (.int .i64 (on.getD (plc on.length k) 0)) v) (on.take (jot on.length (k + 1))) := by
  have hpl := plc_lt h1 hk
  rw [jot_succ]
  have e : on.getD (plc on.length k) 0 = on[plc on.length k] := by rw [List.getD_eq_getElem?_getD, List.getElem?_eq_getElem hpl]; rfl
  rw [List.take_succ_eq_append_getElem hpl, e]
  have hni : on[plc on.length k] ∉ on.take (plc on.length k) := by
    intro hm
    obtain ⟨i, hi, he⟩ := List.mem_iff_getElem.1 hm
    rw [List.getElem_take] at he
    rw [List.length_take] at hi
    have := List.pairwise_iff_getElem.1 hp i (plc on.length k) (by omega) hpl (by omega)
    omega
  rcases jot_up (L := on.length) (k := k) h8 with hj | hj
  · rw [hj] at h
    exact keys_new h _ v hni
  · rw [hj, List.take_succ_eq_append_getElem hpl] at h
    exact keys_old' h v hni
theorem law3 : Keyed Try.prog 3 := int_keyed Try.underlying3
theorem zero3 (w : World) : (zeroValue 3).run Try.prog w = .ok (.int .i64 0) w := by kernel_rfl
set_option maxHeartbeats 4000000 in
set_option maxRecDepth 100000 in
theorem on_k (m o h : Int) (w : World) (hm : 0 ≤ m ∧ m ≤ 255) (ho : 0 ≤ o ∧ o ≤ 255) (hh : 0 ≤ h ∧ h ≤ 4294967295) :
    Calls Try.prog 4 #[.int .u8 m, .int .u8 o, .int .u32 h] w fun e w' => e = .returned (.bool true) ∧ Below w.heap.size w w' := by
  obtain ⟨n, hn⟩ : ∃ n : Nat, m.tmod 8 + 1 = n := ⟨(m.tmod 8 + 1).toNat, by rw [Int.tmod_eq_emod_of_nonneg hm.1]; omega⟩
  have hn1 : 1 ≤ n ∧ n ≤ 8 := by rw [Int.tmod_eq_emod_of_nonneg hm.1] at hn; omega
  have hmod : m.tmod 8 = (n : Int) - 1 := by omega
  have hmm := @run_makeMap Try.prog
  go_enter Try.func4, Try.ntmps4
  go_wp2_with fail
  refine (new_o n 5 w w (Below.refl _ _) hn1 (by decide)).mono ?_
  rintro e w1 ⟨rfl, HL⟩
  go_wp2
  generalize w.heap.size + 2 = b at HL ⊢
  go_loopg [10, 11] n (fun g vl vi wr => ∃ (i : Nat), i + g = n ∧ vi = .int .i64 i ∧ Gath w1 (bits (tb o) i) vl wr)
  case atStart => exact ⟨0, by omega, rfl, gath_start w1⟩
  case round =>
    obtain ⟨i, hig, rfl, hG⟩ := hrel
    obtain ⟨hb, A, c, rfl, hq⟩ := hG
    have hlen := bits_len (tb o) i
    by_cases hi : i < n
    · by_cases ht : Go.bits BinOp.and .u8 (o / 2 ^ i) 1 = 1
      · obtain ⟨A', c', w2, hrun, hG⟩ := gath_step hb hq i (by omega)
        have hbs : bits (tb o) (i + 1) = bits (tb o) i ++ [(i : Int)] := by rw [bits_succ, if_pos (by unfold tb; exact decide_eq_true ht)]
        have HRUN := Lib.hid hrun
        have HG := Lib.hid hG
        rw [← hbs] at HG
        clear hrun hG hbs hq
        generalize hL : (bits (tb o) i).length = L at HRUN HG hlen ⊢
        go_wp2_with (at_builtin; refine wpList_app rfl _ _ 33 rfl (.slice A L c) (.slice (some ⟨wr.heap.size, 0, none⟩) 1 1) (.slice A' (L + 1) c') _ w2 rfl rfl HRUN.out ?_)
        go_roundg (n - i - 1)
        case measure => omega
        case rel => exact ⟨i + 1, by omega, rfl, HG.out⟩
      · have hbs : bits (tb o) (i + 1) = bits (tb o) i := by rw [bits_succ, if_neg (by unfold tb; simp [ht])]
        have hG : Gath w1 (bits (tb o) (i + 1)) (.slice A (bits (tb o) i).length c) wr := by rw [hbs]; exact ⟨hb, A, c, rfl, hq⟩
        have HG := Lib.hid hG
        clear hbs hG hq
        have ht2 : (Go.bits BinOp.and .u8 (o / 2 ^ i) 1 == 1) = false := by simp [ht]
        go_wp2
        go_roundg (n - i - 1)
        case measure => omega
        case rel => exact ⟨i + 1, by omega, rfl, HG.out⟩
    · have e : i = n := by omega
      subst e
      have HL := HL.under hb
      clear hi hig hb
      by_cases hL1 : 1 ≤ (bits (tb o) i).length
      · obtain ⟨j, hj, hjn, htj⟩ := core_bit i (tb o) h hh hL1
        have hb1 : Go.bits BinOp.and .u8 (o / 2 ^ j) 1 = 1 := of_decide_eq_true htj
        have hC := cores_yes i (tb o) hL1
        have HP := Lib.hid (bits_pair (tb o) i)
        have HE := Lib.hid (bits_get (tb o) i)
        generalize bits (tb o) i = on at HE hC HL hq hlen hL1 hj HP ⊢
        have HJ := Lib.hid hj
        clear hj
        go_wp2_with fail
        refine (HL.cores_ok hn1.2 A c on hq (by omega)).mono ?_
        clear HL
        rintro e w2 ⟨rfl, HL⟩
        rw [hC] at HL ⊢
        clear hC hq
        have hz0 : ((on.length : Int) == 0) = false := beq_eq_false_iff_ne.2 (by omega)
        have hz1 : decide (0 < on.length) = true := decide_eq_true (by omega)
        have hz2 : (on.length == 0) = false := beq_eq_false_iff_ne.2 (by omega)
        go_wp2_with fail
        refine (HL.target_ok h hh hL1 (Nat.le_trans hlen hn1.2)).mono ?_
        rintro e w3 ⟨rfl, rfl⟩
        rw [lit_target, HJ.out]
        clear HJ
        generalize hL : on.length = L at *
        go_wp2
        have HK : Keys (.map []) (on.take (jot L 0)) := by rw [show jot L 0 = 0 from rfl, List.take_zero]; exact keys_start
        have HM : (w2.alloc (.map #[] 0)).ownsMap Try.prog 3 (plainElem Try.prog 3) w2.heap.size 0 (.map [] : DataW Nat) := World.ownsMap_made _ _ _ _
        have HB : Below w2.heap.size w2 (w2.alloc (.map #[] 0)) := (Below.refl _ _).alloc (Nat.le_refl _) _
        clear hz0 hz1 hz2
        go_loopg [16, 17, 18] 64 (fun g vi v17 v18 wr => ∃ (k : Nat) (D : DataW Nat), k + g = 64 ∧ vi = .int .i64 k ∧ Keys D (on.take (jot L k)) ∧ wr.ownsMap Try.prog 3 (plainElem Try.prog 3) w2.heap.size k D ∧ Below w2.heap.size w2 wr)
        case atStart => exact ⟨0, _, by omega, rfl, HK, HM, HB⟩
        case round =>
          clear HK HM HB
          obtain ⟨k, D, hkg, rfl, HK, HM, HB⟩ := hrel
          by_cases hk : k < 64
          · have hL2 : on.length = L := hL
            have hsh : coreOf ((k : Int) * 67108864) on = on.getD (plc L k) 0 := by rw [← hL2]; exact core_plc k on
            obtain ⟨x, hx⟩ : ∃ x, x = on.getD (plc L k) 0 := ⟨_, rfl⟩
            have HX := Lib.hid hx
            have HSH := Lib.hid (hsh.trans hx.symm)
            have hx0 := HE.out (plc L k)
            rw [← hx] at hx0
            have HST := Lib.hid (fun v => key_step (D := D) (on := on) (k := k) (by rw [hL2]; exact HK) (by rw [hL2]; exact hL1) (by omega) HP.out hk v)
            rw [hL2, ← hx] at HST
            clear hsh hx HX hL2 HK
            go_wp2_with fail
            refine ((HL.under HB).target_ok _ (by omega) (by show 1 ≤ on.length; omega) (by show on.length ≤ 8; omega)).mono ?_
            rintro e w3 ⟨rfl, rfl⟩
            rw [lit_target, HSH.out]
            clear HSH
            have hwf : (Lit.int .i64 x).wf = true := WalkArith.wf_i64 (by omega)
            go_wp2_with (first | (at_lookup; refine wpList_lookup_own_int _ rfl _ _ 46 rfl 3 3 .i64 law3 Try.underlying46 Try.underlying3 (zero3 _) w2.heap.size k D rfl HM _ _ rfl (keyOf_int_mk Try.underlying3 hwf) ?_; intro c1 hat hwc) | (at_mapUpdate; refine wpList_mapUpdate_own _ rfl _ _ _ 46 rfl 3 3 law3 Try.underlying46 _ w2.heap.size k D rfl HM (by unfold maxLen; omega) _ _ _ rfl rfl (keyOf_int_mk Try.underlying3 hwf) _ [] (plainElem_int Try.underlying3 (wrap64_wf _)) ?_; intro w4 hown1 hgrow1))
            go_roundg (64 - k - 1)
            case measure => omega
            case rel => exact ⟨k + 1, _, by omega, rfl, HST.out _, hown1, HB.grown hgrow1 HB.size (fun q hq => by cases hq; exact Nat.le_refl _)⟩
          · have e : k = 64 := by omega
            subst e
            have hL2 : on.length = L := hL
            have hj64 : jot L 64 = L := plc_63 hL1 (by omega)
            rw [hj64, ← hL2, List.take_length] at HK
            obtain ⟨es, clock, hes, hsz⟩ := keys_len HM HK
            rw [hL2] at hsz
            clear HK HM hj64
            have hLL : (L == L) = true := beq_self_eq_true L
            have hlr : (Builtin.len_ #[46] 3 #[.map (some w2.heap.size)]).run Try.prog wr = .ok (.int .i64 (L : Int)) wr := by rw [← hsz]; exact run_len_map _ 46 3 _ es clock Try.underlying46 hes
            have HL := HL.under HB
            clear hes hsz HB
            go_wp2_with fail
            refine (works_k w wr HL.below).mono ?_
            rintro e w5 ⟨rfl, hb⟩
            go_wp2
            go_ret
            exact ⟨rfl, hb⟩
      · have hC := cores_no i (tb o) hL1
        go_wp2_with fail
        refine (HL.cores_ok hn1.2 A c (bits (tb o) i) hq (by omega)).mono ?_
        clear HL
        rintro e w2 ⟨rfl, HL⟩
        rw [hC] at HL ⊢
        have h0 : (bits (tb o) i).length = 0 := by omega
        rw [h0]
        go_wp2_with fail
        refine (works_k w w2 HL.below).mono ?_
        rintro e w3 ⟨rfl, hb⟩
        go_wp2
        go_ret
        exact ⟨rfl, hb⟩
end Go.Proofs.Ytggfjnicofgohaa.Sf
