import Derived.Test.YtggfjnicofgohaaRc
namespace Go.Proofs.Ytggfjnicofgohaa.Sf
open Go.RowKit Blk Go.Proofs.YtggfjnicofgohaaW.PrintWords
set_option linter.unusedVariables false

/-- A slice of numbers that lies somewhere. -/
def Raw (w : World) (A : Option Addr) (on : List Int) : Prop := on.length = 0 ∨ ∃ g o, A = some ⟨g, o, none⟩ ∧ ∀ j x, on[j]? = some x → w.cell? ⟨g, o + j, none⟩ = some (.int .i64 x)
def Rf.cores (s : Rf) (on : List Int) : Rf × Int := if 1 ≤ on.length ∧ upTo s.n on on.length then ({ s with on := on }, 0) else (s, 2)
theorem copy_run {w : World} {g o : Nat} {on : List Int} (hc : ∀ j x, on[j]? = some x → w.cell? ⟨g, o + j, none⟩ = some (.int .i64 x)) (c : Nat) (h1 : 1 ≤ on.length) (h2 : on.length ≤ 1000000) :
    ∃ A' c' w1, (Builtin.append_ #[33, 33] 33 #[.slice none 0 0, .slice (some ⟨g, o, none⟩) on.length c]).run Try.prog w = .ok (.slice A' on.length c') w1 ∧ QRow w1 w.heap.size 3 1 (.slice A' on.length c') on.length (on.map (Value.int .i64)) ∧ Below w.heap.size w w1 := by
  obtain ⟨i0, hi0, hz0, hz1, hz2⟩ := info_parts info3
  have hq0 : QRow w w.heap.size 3 1 (.slice none 0 0) 0 [] := ⟨rfl, .inl ⟨rfl, none, rfl, fun a h => by cases h⟩⟩
  obtain ⟨v', w1, hrun, hq', hg, hat⟩ := q_append (P := Try.prog) w w.heap.size 33 33 3 i0 (.int .i64 0) 1 8 Try.underlying33 hi0 hz0 hz1 hz2 rfl (by decide) _ _ _ hq0 ⟨g, o, none⟩ on.length c (on.map (Value.int .i64)) (by simp)
    (fun j u hu => by
      rw [add_at]
      rw [List.getElem?_map] at hu
      cases hx : on[j]? with
      | none => rw [hx] at hu; cases hu
      | some x => rw [hx] at hu; injection hu with hu; rw [← hu]; exact hc j x hx)
    (fun u hu => by obtain ⟨x, _, rfl⟩ := List.mem_map.1 hu; rfl) (by omega) (by unfold maxLen; omega) (by omega) (Nat.le_refl _)
  rw [Nat.zero_add, List.nil_append] at hq'
  obtain ⟨A', c', rfl, _⟩ := q_slice hq'
  refine ⟨A', c', w1, hrun, hq', (Below.refl _ _).grown hg (Nat.le_refl _) (fun k hk => by cases hk)⟩
theorem r_isq {w : World} {base b r ro rk l lo lk : Nat} {rv : List Value} {O : Value} {s : Rf} (h : RAt w base b r ro rk l lo lk rv O s) (x : Int) (t : Bool) (ht : (!(may s.n x == 2)) = t) (n : Nat) :
    Calls Try.prog 25 #[.pointer (some ⟨b, 0, none⟩), .int .i64 x] (w.drewN n) fun e w'' => e = .returned (.bool t) ∧ ∃ m, w'' = w.drewN m := by
  refine (r_is (h.move (keeps_drewN _ _ n)) x).mono ?_
  rintro e w' ⟨rfl, rfl⟩
  exact ⟨by rw [ht], n, rfl⟩
def RcPost (base b r ro rk l lo lk : Nat) (rv : List Value) (s' : Rf) (w w' : World) : Prop := (∃ O', RAt w' base b r ro rk l lo lk rv O' s') ∧ Ft base w w'
set_option maxHeartbeats 4000000 in
theorem r_cores {w : World} {base b r ro rk l lo lk : Nat} {rv : List Value} {O : Value} {s : Rf} (h : RAt w base b r ro rk l lo lk rv O s) (hn : s.n ≤ 8) (hbase : base ≤ w.heap.size) (A : Option Addr) (c : Nat) (on : List Int) (hq : Raw w A on) (hlen : on.length ≤ 1000000) :
    Calls Try.prog 20 #[.pointer (some ⟨b, 0, none⟩), .slice A on.length c] w fun e w' => e = .returned (.int .i64 (s.cores on).2) ∧ RcPost base b r ro rk l lo lk rv (s.cores on).1 w w' := by
  have H := Lib.hid h
  by_cases h0 : on.length = 0
  · have HS := Lib.hid (show s.cores on = (s, 2) from if_neg (by omega))
    rw [HS.out]
    rw [h0]
    clear h
    go_enter Try.func20, Try.ntmps20
    go_wp2
    go_ret
    exact ⟨rfl, ⟨O, H.out⟩, Ft.refl _ _⟩
  obtain ⟨g, o, rfl, hc⟩ := hq.resolve_left h0
  have HC := Lib.hid hc
  have e0 : ((on.length : Nat) == 0) = false := beq_eq_false_iff_ne.2 h0
  have hlen1 : 1 ≤ on.length := by omega
  clear h hc hq h0
  go_enter Try.func20, Try.ntmps20
  go_wp2
  go_loopg [5] on.length (fun gk vi wr => ∃ k : Nat, k + gk = on.length ∧ vi = .int .i64 k ∧ Hid (upTo s.n on k) ∧ ∃ q, wr = w.drewN q)
  case atStart => exact ⟨0, by omega, rfl, Lib.hid (fun j hj => absurd hj (Nat.not_lt_zero j)), 0, rfl⟩
  case round =>
    obtain ⟨k, hkg, rfl, hU, q, rfl⟩ := hrel
    have HQ := Lib.hid (H.out.move (keeps_drewN (fun t => t = 56 ∨ t = 52 ∨ t = 32 ∨ t = 3 ∨ t = 72) w q))
    have HFQ := Lib.hid ((Ft.refl base w).drewN q)
    have hcw : ∀ j x, on[j]? = some x → (w.drewN q).cell? ⟨g, o + j, none⟩ = some (.int .i64 x) := HC.out
    have HCW := Lib.hid hcw
    clear hcw
    obtain ⟨W, hW⟩ : ∃ W, W = w.drewN q := ⟨_, rfl⟩
    rw [← hW] at HQ HFQ HCW ⊢
    have HW := Lib.hid hW
    clear hW
    by_cases hk : k < on.length
    · obtain ⟨x, hx⟩ : ∃ x, on.getD k 0 = x := ⟨_, rfl⟩
      have q0 : W.cell? ⟨g, o + k, none⟩ = some (.int .i64 x) := by
        rw [← hx]
        exact HCW.out k _ (by rw [List.getD_eq_getElem?_getD, List.getElem?_eq_getElem hk]; rfl)
      have HX := Lib.hid hx
      clear hx
      by_cases hb : x < 0 ∨ (s.n : Int) ≤ x
      · have HS := Lib.hid (show s.cores on = (s, 2) from if_neg (fun y => by have := (y.2 k hk).1; rw [HX.out] at this; omega))
        have hm : (!(may s.n x == 2)) = false := by rw [may_2 s.n x hb]; rfl
        have HM := Lib.hid hm
        clear hm
        clear hb
        go_wp2
        go_quiet ((go_at_call 25; exact r_isq HQ.out x _ HM.out _))
        go_wp2
        go_ret
        exact ⟨by rw [HS.out]; rfl, by rw [HS.out]; exact ⟨_, HQ.out.move (keeps_drewN _ _ _)⟩, HFQ.out.drewN _⟩
      · have hm : (!(may s.n x == 2)) = true := by rw [may_0 s.n x hb]; rfl
        have HM := Lib.hid hm
        clear hm
        have HBD := Lib.hid (show 0 ≤ x ∧ x < s.n by omega)
        clear hb
        by_cases hk0 : k = 0
        · have HK0 := Lib.hid hk0
          have d0 : decide ((0 : Int) < (k : Int)) = false := by rw [hk0]; rfl
          have d1 : decide (0 < k) = false := by rw [hk0]; rfl
          clear hk0
          go_wp2
          go_quiet ((go_at_call 25; exact r_isq HQ.out x _ HM.out _))
          go_wp2
          go_roundg (on.length - (k + 1))
          case measure => omega
          case rel => exact ⟨k + 1, by omega, by go_num, Lib.hid (fun j hj => by
            have := HK0.out
            obtain rfl : j = k := by omega
            rw [HX.out]
            exact ⟨HBD.out, .inl this⟩), q + nq, by rw [HW.out, World.drewN_drewN]⟩
        · obtain ⟨m, rfl⟩ : ∃ m, k = m + 1 := ⟨k - 1, by omega⟩
          clear hk0
          obtain ⟨y, hy⟩ : ∃ y, on.getD m 0 = y := ⟨_, rfl⟩
          have q1 : W.cell? ⟨g, o + m, none⟩ = some (.int .i64 y) := by
            rw [← hy]
            exact HCW.out m _ (by rw [List.getD_eq_getElem?_getD, List.getElem?_eq_getElem (by omega)]; rfl)
          have HY := Lib.hid hy
          clear hy
          by_cases hxy : x ≤ y
          · have HS := Lib.hid (show s.cores on = (s, 2) from if_neg (fun z => by have := (z.2 (m + 1) hk).2; rw [HX.out, show m + 1 - 1 = m from rfl, HY.out] at this; omega))
            have e2 : decide (x ≤ y) = true := decide_eq_true hxy
            go_wp2
            go_quiet ((go_at_call 25; exact r_isq HQ.out x _ HM.out _))
            go_wp2
            go_ret
            exact ⟨by rw [HS.out]; rfl, by rw [HS.out]; exact ⟨_, HQ.out.move (keeps_drewN _ _ _)⟩, HFQ.out.drewN _⟩
          · have HXY := Lib.hid (show y < x by omega)
            have e2 : decide (x ≤ y) = false := decide_eq_false hxy
            clear hxy
            go_wp2
            go_quiet ((go_at_call 25; exact r_isq HQ.out x _ HM.out _))
            go_wp2
            go_roundg (on.length - (m + 1 + 1))
            case measure => omega
            case rel => exact ⟨m + 1 + 1, by omega, by go_num, Lib.hid (fun j hj => by
              by_cases e : j = m + 1
              · subst e
                rw [HX.out, show m + 1 - 1 = m from rfl, HY.out]
                exact ⟨HBD.out, .inr HXY.out⟩
              · exact hU.out j (by omega)), q + nq, by rw [HW.out, World.drewN_drewN]⟩
    · obtain rfl : k = on.length := by omega
      have HS := Lib.hid (show s.cores on = ({ s with on := on }, 0) from if_pos ⟨hlen1, hU.out⟩)
      obtain ⟨A', c', w1, hrun, hq2, hB⟩ := copy_run HCW.out c hlen1 hlen
      have HRUN := Lib.hid hrun
      have hb1 := (keeps_below (T := fun _ => True) hB).has trivial HQ.out.hb
      have c3' : w1.cell? ⟨b, 3, none⟩ = some _ := hb1.cell rfl
      have f3' := hb1.free 3
      have HA2 := Lib.hid ((HQ.out.move (keeps_below hB)).onSet (.slice A' on.length c') on (q_lower hq2 (Nat.le_trans hbase HFQ.out.size)))
      have HF := Lib.hid (Ft.set (HFQ.out.trans (ft_below hB)) ⟨b, 3, none⟩ (.slice A' on.length c') hb1 HQ.out.gb (.inl rfl))
      clear hrun hq2 hB hb1
      go_wp2_with (at_builtin; refine wpList_app rfl _ _ 33 rfl (.slice none 0 0) (.slice (some ⟨g, o, none⟩) on.length c) (.slice A' on.length c') _ w1 rfl rfl HRUN.out ?_)
      go_ret
      exact ⟨by rw [HS.out]; rfl, by rw [HS.out]; exact ⟨_, HA2.out⟩, HF.out⟩
end Go.Proofs.Ytggfjnicofgohaa.Sf
