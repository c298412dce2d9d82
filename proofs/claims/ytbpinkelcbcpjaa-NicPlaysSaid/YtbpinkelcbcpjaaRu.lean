import Derived.Test.YtbpinkelcbcpjaaRt
namespace Go.Proofs.Ytbpinkelcbcpjaa.Ni
open Go.RowKit Blk Go.Proofs.YtbpinkelcbcpjaaW.PrintWords
attribute [local go_sem] rmax2_mx rmin2_mn Go.Proofs.YtbpinkelcbcpjaaW.PrintMore.max_two Go.Proofs.YtbpinkelcbcpjaaW.PrintMore.min_two
set_option linter.unusedVariables false

section
variable {w w' : World} {base b : Nat} {g : Rl} {r : Rf}
set_option maxHeartbeats 4000000 in
set_option maxRecDepth 100000 in
theorem r_send (h : RAt w base b g r) (x : Int) (t : ByteArray) (hl : ∀ i, (r.outs.getD i []).length ≤ 1000) (hsz : r.size ≤ 256) (hbase : base ≤ w.heap.size) :
    Calls Try.prog 28 #[.pointer (some ⟨b, 0, none⟩), .int .i64 x, .string t] w fun e w' => e = .returned (.int .i64 (r.send x t).2) ∧ Re w' base b (r.send x t).1 ∧ Fk base TS w w' := by
  have H := Lib.hid h
  by_cases hx : 0 ≤ x ∧ x < r.ins.length
  · obtain ⟨i, hi⟩ := Int.eq_ofNat_of_zero_le hx.1
    have hil : i < r.ins.length := by omega
    have hil2 : i < r.outs.length := by rw [h.lo]; exact hil
    have hco : r.send x t = if r.size ≤ (r.outs.getD i []).length then ({ r with sent := (r.sent + 1) % 18446744073709551616 }, 6) else ({ r with outs := r.outs.set i (r.outs.getD i [] ++ [t]) }, 0) := by
      unfold Rf.send
      rw [if_pos hx, hi, Int.toNat_natCast]
    have HCO := Lib.hid hco
    have hd : decide (0 ≤ x ∧ x < r.ins.length) = true := decide_eq_true hx
    have HD := Lib.hid hd
    subst hi
    obtain ⟨A, c, hrv, _⟩ := h.ro.at' i hil2
    have cO := h.c3
    have c0 : w.cell? ⟨b, 0, none⟩ = some (.int .i64 r.size) := h.hb.cell rfl
    have cr := (q_cell h.ho i _ hrv).1
    have hi3 : (i : Int) < (r.ins.length : Int) := by omega
    have hn8 := h.n8
    have hli := hl i
    have HF := Lib.hid (Fk.refl base TS w)
    clear h hrv hx hco hd hl
    by_cases hf : r.size ≤ (r.outs.getD i []).length
    · have d1 : decide ((r.size : Int) ≤ ((r.outs.getD i []).length : Int)) = true := decide_eq_true (by omega)
      have d2 : decide (r.size ≤ (r.outs.getD i []).length) = true := decide_eq_true hf
      generalize (r.outs.getD i []).length = m at *
      go_enter Try.func28, Try.ntmps28
      go_wp2_with fail
      refine (r_is H.out i).mono ?_
      rintro e w1 ⟨rfl, rfl⟩
      rw [HD.out]
      go_wp2
      go_quiet (fail)
      clear cO c0 cr
      generalize hW3 : World.drewN _ _ = W3
      have h3 : RAt W3 base b g r := by rw [← hW3]; exact H.out.still ((Ch.refl _ _).drewN _)
      have hF3 : Hid (Fk base TS w W3) := Lib.hid (by rw [← hW3]; exact HF.out.drewN _)
      have c6 : W3.cell? ⟨b, 6, none⟩ = some (.int .u64 r.sent) := h3.hb.cell rfl
      have f6 := h3.hb.free 6
      have A1 := Lib.hid (h3.setSent ((r.sent + 1) % 18446744073709551616))
      have A2 := Lib.hid (hF3.out.set ⟨b, 6, none⟩ (.int .u64 ((r.sent + 1) % 18446744073709551616)) h3.hb h3.gb (fun ht => ht.2.2 rfl))
      clear hW3 h3
      go_wp2
      go_ret
      rw [HCO.out, if_pos hf]
      exact ⟨rfl, ⟨_, A1.out⟩, A2.out⟩
    · have d1 : decide ((r.size : Int) ≤ ((r.outs.getD i []).length : Int)) = false := decide_eq_false (by omega)
      have d2 : decide (r.size ≤ (r.outs.getD i []).length) = false := decide_eq_false hf
      have HL := Lib.hid hli
      obtain ⟨m, hm⟩ : ∃ m, m = (r.outs.getD i []).length := ⟨_, rfl⟩
      rw [← hm] at cr d1 d2
      have HM := Lib.hid hm
      clear hm hli
      go_enter Try.func28, Try.ntmps28
      go_wp2_with fail
      refine (r_is H.out i).mono ?_
      rintro e w1 ⟨rfl, rfl⟩
      rw [HD.out]
      go_wp2
      go_quiet (fail)
      clear cO c0 cr
      generalize hW3 : World.drewN _ _ = W3
      have h3 : RAt W3 base b g r := by rw [← hW3]; exact H.out.still ((Ch.refl _ _).drewN _)
      have hF3 : Hid (Fk base TS w W3) := Lib.hid (by rw [← hW3]; exact HF.out.drewN _)
      clear hW3 H
      obtain ⟨A0, c0, A', c', w4, hcr, hrun, p1, p2, p3, hRe, hFk⟩ := r_appO h3 i hil t HL.out (Nat.le_trans hbase hF3.out.below.size)
      rw [← HM.out] at hcr hrun p2 hRe hFk
      have R1 := Lib.hid hrun
      have HRE := Lib.hid hRe
      have HFK := Lib.hid (hF3.out.trans hFk)
      have cI := h3.c3
      have l1 := h3.hb.lt
      have l3 : g.ob < W3.heap.size := World.block_lt_of_cell? _ _ hcr
      clear hrun hRe hFk h3 hF3
      go_wp2
      go_cut [] from 31 to 46 (fun wc => wc = w4.setCell ⟨g.ob, g.oo + i, none⟩ (.slice A' (m + 1) c'))
      case first =>
        go_region_law (refine step_app rfl (.tmp 42) (.tmp 44) 45 rfl (.slice A0 m c0) (.slice (some ⟨W3.heap.size, 0, none⟩) 1 1) (.slice A' (m + 1) c') _ w4 (by simp [Act.eval]) (by simp [Act.eval]) R1.out ?_)
        all_goals
          go_wp2_with fail
          go_meet
          case rel => rfl
      case rest =>
        subst hcut
        clear cI l1 l3 hcr p1 p2 p3 R1
        go_wp2
        go_ret
        rw [HCO.out, if_neg hf]
        exact ⟨rfl, HRE.out, HFK.out⟩
  · have HP := Lib.hid (show r.send x t = (r, 2) from if_neg hx)
    have hd : decide (0 ≤ x ∧ x < r.ins.length) = false := decide_eq_false hx
    have HD := Lib.hid hd
    clear h hx hd
    go_enter Try.func28, Try.ntmps28
    go_wp2_with fail
    refine (r_is H.out x).mono ?_
    rintro e w1 ⟨rfl, rfl⟩
    rw [HD.out]
    go_wp2
    go_ret
    rw [HP.out]
    exact ⟨rfl, ⟨g, H.out⟩, Fk.refl _ _ _⟩
end
end Go.Proofs.Ytbpinkelcbcpjaa.Ni
