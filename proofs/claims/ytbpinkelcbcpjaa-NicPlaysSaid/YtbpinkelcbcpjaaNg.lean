import Derived.Test.YtbpinkelcbcpjaaNf
namespace Go.Proofs.Ytbpinkelcbcpjaa.Ni
open Go.RowKit Blk Go.Proofs.YtbpinkelcbcpjaaW.PrintWords
set_option linter.unusedVariables false

theorem q_of_has {w : World} {base g k size : Nat} {e : TypeId} {xs : List Value} (h : Has w g xs e) (hl : xs.length = k * size) (hb : base ≤ g) (hk : k ≤ maxLen) : QRow w base e size (.slice (some ⟨g, 0, none⟩) k k) k xs :=
  ⟨hl, .inr ⟨g, 0, k, xs.toArray, by rw [Nat.zero_mul], hb, h, Nat.le_refl _, by rw [Nat.zero_add]; exact hk, by rw [Nat.zero_add]; exact hl, by rw [Nat.zero_mul, List.drop_zero]; exact List.take_of_length_le (by rw [← hl]; exact Nat.le_refl _)⟩⟩
theorem q_none (w : World) (base : Nat) (e : TypeId) (size : Nat) : QRow w base e size (.slice none 0 0) 0 [] := ⟨by rw [Nat.zero_mul]; rfl, .inl ⟨rfl, none, rfl, fun a h => by cases h⟩⟩
theorem cyc_zero {α : Type} (l : List α) (fr : Nat) : cyc l fr 0 = [] := by simp [cyc]
section
variable {w : World} {size qb ib ob : Nat} {q : Qu}
theorem take_c (h : QAt w size qb ib ob q) (n : Int) (hs : size ≤ 256) :
    Calls Try.prog 35 #[.pointer (some ⟨qb, 0, none⟩), .int .i64 n] w fun e w' => (∃ A, e = .returned (.slice A (tk n q.an) (tk n q.an)) ∧ QRow w' w.heap.size 53 2 (.slice A (tk n q.an) (tk n q.an)) (tk n q.an) (flat (cyc q.a q.af (tk n q.an)))) ∧ QAt w' size qb ib ob (q.poll size (tk n q.an)) ∧ Ch (· = qb) w w' := by
  by_cases hk : tk n q.an = 0
  · refine (take_none h n hk).mono ?_
    rintro e w' ⟨rfl, rfl⟩
    rw [hk, cyc_zero]
    refine ⟨⟨none, rfl, q_none _ _ _ _⟩, ?_, Ch.refl _ _⟩
    have e : q.poll size 0 = q := by
      cases q
      unfold Qu.poll
      simp only [Nat.add_zero, Nat.sub_zero]
      rw [Nat.mod_eq_of_lt h.fa]
    rw [e]
    exact h
  · refine (take_some h n hs _ rfl (by omega)).mono ?_
    rintro e w' ⟨rfl, hx, hq, hc⟩
    have hle := tk_le n q.an
    have := h.na
    refine ⟨⟨_, rfl, q_of_has hx ?_ (Nat.le_refl _) (by unfold maxLen; omega)⟩, hq, hc⟩
    rw [flat_len, cyc_len _ _ _ (by rw [h.la]; exact h.fa) (by rw [h.la]; omega)]
theorem gone_c (h : QAt w size qb ib ob q) (n : Int) (hs : size ≤ 256) :
    Calls Try.prog 38 #[.pointer (some ⟨qb, 3, none⟩), .int .i64 n] w fun e w' => (∃ A, e = .returned (.slice A (tk n q.on) (tk n q.on)) ∧ QRow w' w.heap.size 9 1 (.slice A (tk n q.on) (tk n q.on)) (tk n q.on) (strs (cyc q.o q.of (tk n q.on)))) ∧ QAt w' size qb ib ob (q.gone size (tk n q.on)) ∧ Ch (· = qb) w w' := by
  by_cases hk : tk n q.on = 0
  · refine (gone_none h n hk).mono ?_
    rintro e w' ⟨rfl, rfl⟩
    rw [hk, cyc_zero]
    refine ⟨⟨none, rfl, q_none _ _ _ _⟩, ?_, Ch.refl _ _⟩
    have e : q.gone size 0 = q := by
      cases q
      unfold Qu.gone
      simp only [Nat.add_zero, Nat.sub_zero]
      rw [Nat.mod_eq_of_lt h.fo]
    rw [e]
    exact h
  · refine (gone_some h n hs _ rfl (by omega)).mono ?_
    rintro e w' ⟨rfl, hx, hq, hc⟩
    have hle := tk_le n q.on
    have := h.no
    refine ⟨⟨_, rfl, q_of_has hx ?_ (Nat.le_refl _) (by unfold maxLen; omega)⟩, hq, hc⟩
    rw [strs_len1, cyc_len _ _ _ (by rw [h.lo]; exact h.fo) (by rw [h.lo]; omega)]
theorem QAt.arm (h : QAt w size qb ib ob q) (v : Bool) : QAt (w.setCell ⟨qb, 6, none⟩ (.bool v)) size qb ib ob { q with armed := v } :=
  have h1 := has_ne h.hi h.hq (by decide)
  have h2 := has_ne h.ho h.hq (by decide)
  ⟨h.hq.set 6 (.bool v), h.hi.setOther _ _ h1, h.ho.setOther _ _ h2, h.la, h.lo, h.fa, h.na, h.fo, h.no⟩
end
def St.poll (s : St) (x n : Int) : St × List Sl × Int :=
  if s.is x ∧ 1 ≤ n ∧ n ≤ 64 then
    (s.setq x.toNat { (s.qu x).poll s.size (tk n (s.qu x).an) with armed := decide ((tk n (s.qu x).an : Int) < n) }, cyc (s.qu x).a (s.qu x).af (tk n (s.qu x).an), 0)
  else (s, [], 2)
def St.send (s : St) (x : Int) (t : ByteArray) : St × Int :=
  if s.is x then
    if (s.qu x).on = s.size then ({ s with sent := (s.sent + 1) % 18446744073709551616 }, 6)
    else (s.setq x.toNat ((s.qu x).send s.size t), 0)
  else (s, 2)
def St.gone (s : St) (x n : Int) : St × List ByteArray :=
  if s.is x then (s.setq x.toNat ((s.qu x).gone s.size (tk n (s.qu x).on)), cyc (s.qu x).o (s.qu x).of (tk n (s.qu x).on)) else (s, [])
section
variable {w : World} {base top b : Nat} {L : Lay} {s : St}
theorem is_bad {s : St} {x : Int} (h : ¬ s.is x) : x < 0 ∨ (s.qs.length : Int) ≤ x := by unfold St.is at h; omega
set_option maxHeartbeats 2000000 in
theorem poll_c (h : At w base top b L s) (x n : Int) :
    Calls Try.prog 20 #[.pointer (some ⟨b, 0, none⟩), .int .i64 x, .int .i64 n] w fun e w' => (∃ A k, k = (s.poll x n).2.1.length ∧ e = .returned (.tuple #[.slice A k k, .int .i64 (s.poll x n).2.2]) ∧ QRow w' w.heap.size 53 2 (.slice A k k) k (flat (s.poll x n).2.1)) ∧ At w' base top b L (s.poll x n).1 ∧ Fr base top w w' := by
  have H := Lib.hid h
  by_cases hx : s.is x
  · obtain ⟨hx0, hx1⟩ := id hx
    obtain ⟨i, rfl⟩ := Int.eq_ofNat_of_zero_le hx0
    have hi : i < s.qs.length := by omega
    by_cases hn : 1 ≤ n ∧ n ≤ 64
    · obtain ⟨q, hq, hQ⟩ := h.qu i hi
      have hp : s.poll i n = (s.setq i { q.poll s.size (tk n q.an) with armed := decide ((tk n q.an : Int) < n) }, cyc q.a q.af (tk n q.an), 0) := by
        unfold St.poll
        rw [if_pos ⟨hx, hn.1, hn.2⟩, qu_of hq, Int.toNat_natCast]
      have HP := Lib.hid hp
      have HQ := Lib.hid hq
      have HQQ := Lib.hid hQ
      have hs8 := h.s8
      obtain ⟨hn0, hn1⟩ := hn
      have hcl : (cyc q.a q.af (tk n q.an)).length = tk n q.an := cyc_len _ _ _ (by rw [hQ.la]; exact hQ.fa) (by rw [hQ.la]; have := tk_le n q.an; have := hQ.na; omega)
      have HCL := Lib.hid hcl
      clear h hp hq hQ hx hx0 hx1 hcl
      go_enter Try.func20, Try.ntmps20
      go_wp2_with fail
      refine (of_ok H.out i hi).mono ?_
      rintro e w1 ⟨rfl, rfl⟩
      go_wp2_with fail
      refine (take_c HQQ.out n hs8).mono ?_
      rintro e w1 ⟨⟨A, rfl, hrow⟩, hq1, hC⟩
      have HR := Lib.hid hrow
      have HQ1 := Lib.hid hq1
      have hC' := hC.mono (B' := fun k => k = L.qb i ∨ k = L.ib i ∨ k = L.ob i) fun k _ hk => .inl hk
      have HC := Lib.hid hC'
      have c6 := hq1.cells.2.2.2.2.2.2
      have f6 := hq1.hq.free 6
      clear hrow hq1 hC hC'
      generalize tk n q.an = k at *
      obtain ⟨bb, hbb⟩ : ∃ bb, decide ((k : Int) < n) = bb := ⟨_, rfl⟩
      have HBB := Lib.hid hbb
      have A1 := Lib.hid (H.out.setq i q _ HQ.out (HQ1.out.arm bb) (HC.out.trans ((Ch.refl _ _).set ⟨L.qb i, 6, none⟩ _ (.inl (.inl rfl)))))
      have A2 := Lib.hid (H.out.frq i hi (HC.out.trans ((Ch.refl _ _).set ⟨L.qb i, 6, none⟩ (.bool bb) (.inl (.inl rfl)))))
      have A3 := Lib.hid (q_move (w1 := w1.setCell ⟨L.qb i, 6, none⟩ (.bool bb)) HR.out fun k hk => heap_set _ _ _ _ (by
        obtain ⟨_, c, hc⟩ := q_typed HR.out k hk
        exact typ_ne HQ1.out.hq hc (by decide)))
      go_wp2
      go_ret2
      rw [HP.out, HBB.out]
      exact ⟨⟨A, k, HCL.out.symm, rfl, A3.out⟩, A1.out, A2.out⟩
    · have HP := Lib.hid (show s.poll i n = (s, [], 2) by unfold St.poll; rw [if_neg (by rintro ⟨_, y⟩; exact hn y)])
      have hn' : n < 1 ∨ 64 < n := by omega
      clear h hx hx0 hx1 hn
      by_cases hn1 : n < 1
      · go_enter Try.func20, Try.ntmps20
        go_wp2_with fail
        refine (of_ok H.out i hi).mono ?_
        rintro e w1 ⟨rfl, rfl⟩
        go_wp2
        go_ret2
        rw [HP.out]
        exact ⟨⟨none, 0, rfl, rfl, q_none _ _ _ _⟩, H.out, Fr.refl _ _ _⟩
      · have hn2 : 64 < n := by omega
        clear hn'
        go_enter Try.func20, Try.ntmps20
        go_wp2_with fail
        refine (of_ok H.out i hi).mono ?_
        rintro e w1 ⟨rfl, rfl⟩
        go_wp2
        go_ret2
        rw [HP.out]
        exact ⟨⟨none, 0, rfl, rfl, q_none _ _ _ _⟩, H.out, Fr.refl _ _ _⟩
  · have HP := Lib.hid (show s.poll x n = (s, [], 2) by unfold St.poll; rw [if_neg (by rintro ⟨y, _⟩; exact hx y)])
    have hb := is_bad hx
    clear h hx
    go_enter Try.func20, Try.ntmps20
    go_wp2_with fail
    refine (of_bad H.out x hb).mono ?_
    rintro e w1 ⟨rfl, rfl⟩
    go_wp2
    go_ret2
    rw [HP.out]
    exact ⟨⟨none, 0, rfl, rfl, q_none _ _ _ _⟩, H.out, Fr.refl _ _ _⟩
set_option maxHeartbeats 2000000 in
theorem send_c (h : At w base top b L s) (x : Int) (t : ByteArray) :
    Calls Try.prog 22 #[.pointer (some ⟨b, 0, none⟩), .int .i64 x, .string t] w fun e w' => e = .returned (.int .i64 (s.send x t).2) ∧ At w' base top b L (s.send x t).1 ∧ Fr base top w w' := by
  have H := Lib.hid h
  by_cases hx : s.is x
  · obtain ⟨hx0, hx1⟩ := id hx
    obtain ⟨i, rfl⟩ := Int.eq_ofNat_of_zero_le hx0
    have hi : i < s.qs.length := by omega
    obtain ⟨q, hq, hQ⟩ := h.qu i hi
    have HQ := Lib.hid hq
    have HQQ := Lib.hid hQ
    have hs8 := h.s8
    by_cases hr : q.on = s.size
    · have HP := Lib.hid (show s.send i t = ({ s with sent := (s.sent + 1) % 18446744073709551616 }, 6) by unfold St.send; rw [if_pos hx, qu_of hq, if_pos hr])
      clear h hq hQ hx hx0 hx1
      go_enter Try.func22, Try.ntmps22
      go_wp2_with fail
      refine (of_ok H.out i hi).mono ?_
      rintro e w1 ⟨rfl, rfl⟩
      go_wp2_with fail
      refine (send_no HQQ.out t hs8 hr).mono ?_
      rintro e w4 ⟨rfl, hC⟩
      have h4 := H.out.still hC
      have hF4 := Lib.hid (Fr.ofNone (base := base) (top := top) hC)
      have c2 : w4.cell? ⟨b, 3, none⟩ = some (.int .u64 s.sent) := h4.hb.cell rfl
      have f2 := h4.hb.free 3
      obtain ⟨a1, a2⟩ := h4.setS ((s.sent + 1) % 18446744073709551616)
      have A1 := Lib.hid a1
      have A2 := Lib.hid (hF4.out.trans a2)
      clear hC h4 a1 a2
      go_wp2
      go_ret
      rw [HP.out]
      exact ⟨rfl, A1.out, A2.out⟩
    · have HP := Lib.hid (show s.send i t = (s.setq i (q.send s.size t), 0) by unfold St.send; rw [if_pos hx, qu_of hq, if_neg hr, Int.toNat_natCast])
      clear h hq hQ hx hx0 hx1
      go_enter Try.func22, Try.ntmps22
      go_wp2_with fail
      refine (of_ok H.out i hi).mono ?_
      rintro e w1 ⟨rfl, rfl⟩
      go_wp2_with fail
      refine (send_ok HQQ.out t hs8 (by have := HQQ.out.no; omega)).mono ?_
      rintro e w4 ⟨rfl, hQ4, hC⟩
      have hC' := hC.mono (B' := fun k => k = L.qb i ∨ k = L.ib i ∨ k = L.ob i) fun k _ hk => hk.elim .inl fun y => .inr (.inr y)
      have A1 := Lib.hid (H.out.setq i q _ HQ.out hQ4 hC')
      have A2 := Lib.hid (H.out.frq i hi hC')
      clear hC hC' hQ4
      go_wp2
      go_ret
      rw [HP.out]
      exact ⟨rfl, A1.out, A2.out⟩
  · have HP := Lib.hid (show s.send x t = (s, 2) by unfold St.send; rw [if_neg hx])
    have hb := is_bad hx
    clear h hx
    go_enter Try.func22, Try.ntmps22
    go_wp2_with fail
    refine (of_bad H.out x hb).mono ?_
    rintro e w1 ⟨rfl, rfl⟩
    go_wp2
    go_ret
    rw [HP.out]
    exact ⟨rfl, H.out, Fr.refl _ _ _⟩
set_option maxHeartbeats 2000000 in
theorem cgone_c (h : At w base top b L s) (x n : Int) :
    Calls Try.prog 23 #[.pointer (some ⟨b, 0, none⟩), .int .i64 x, .int .i64 n] w fun e w' => (∃ A k, k = (s.gone x n).2.length ∧ e = .returned (.slice A k k) ∧ QRow w' w.heap.size 9 1 (.slice A k k) k (strs (s.gone x n).2)) ∧ At w' base top b L (s.gone x n).1 ∧ Fr base top w w' := by
  have H := Lib.hid h
  by_cases hx : s.is x
  · obtain ⟨hx0, hx1⟩ := id hx
    obtain ⟨i, rfl⟩ := Int.eq_ofNat_of_zero_le hx0
    have hi : i < s.qs.length := by omega
    obtain ⟨q, hq, hQ⟩ := h.qu i hi
    have HP := Lib.hid (show s.gone i n = (s.setq i (q.gone s.size (tk n q.on)), cyc q.o q.of (tk n q.on)) by unfold St.gone; rw [if_pos hx, qu_of hq, Int.toNat_natCast])
    have HQ := Lib.hid hq
    have HQQ := Lib.hid hQ
    have hs8 := h.s8
    have hcl : (cyc q.o q.of (tk n q.on)).length = tk n q.on := cyc_len _ _ _ (by rw [hQ.lo]; exact hQ.fo) (by rw [hQ.lo]; have := tk_le n q.on; have := hQ.no; omega)
    have HCL := Lib.hid hcl
    clear h hq hQ hx hx0 hx1 hcl
    go_enter Try.func23, Try.ntmps23
    go_wp2_with fail
    refine (of_ok H.out i hi).mono ?_
    rintro e w1 ⟨rfl, rfl⟩
    go_wp2_with fail
    refine (gone_c HQQ.out n hs8).mono ?_
    rintro e w1 ⟨⟨A, rfl, hrow⟩, hq1, hC⟩
    have hC' := hC.mono (B' := fun k => k = L.qb i ∨ k = L.ib i ∨ k = L.ob i) fun k _ hk => .inl hk
    have A1 := Lib.hid (H.out.setq i q _ HQ.out hq1 hC')
    have A2 := Lib.hid (H.out.frq i hi hC')
    have A3 := Lib.hid hrow
    clear hrow hq1 hC hC'
    go_wp2
    go_ret
    rw [HP.out]
    exact ⟨⟨A, _, HCL.out.symm, rfl, A3.out⟩, A1.out, A2.out⟩
  · have HP := Lib.hid (show s.gone x n = (s, []) by unfold St.gone; rw [if_neg hx])
    have hb := is_bad hx
    clear h hx
    go_enter Try.func23, Try.ntmps23
    go_wp2_with fail
    refine (of_bad H.out x hb).mono ?_
    rintro e w1 ⟨rfl, rfl⟩
    go_wp2
    go_ret
    rw [HP.out]
    exact ⟨⟨none, 0, rfl, rfl, q_none _ _ _ _⟩, H.out, Fr.refl _ _ _⟩
end
end Go.Proofs.Ytbpinkelcbcpjaa.Ni
