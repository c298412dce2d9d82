import Derived.Test.YtbodppjponepgaaCg3
namespace Go.Proofs.Ytbodppjponepgaa.Cg
open Go.RowKit Blk Go.Proofs.YtbodppjponepgaaW.PrintWords Go.Proofs.YtbodppjponepgaaW.PrintMore
attribute [local go_sem] max2_int min2_int max_two min_two
set_option linter.unusedVariables false

theorem cap_bd (n : Int) (h : 0 ≤ n) : 0 ≤ cap n ∧ cap n ≤ 1073741824 := by unfold cap mn; split <;> omega
theorem mx_ge (a b : Int) (h : 0 ≤ b) : 0 ≤ mx a b := by unfold mx; split <;> omega
theorem St.Ok.mono {s : St} {K L : Int} (h : s.Ok K) (hl : K ≤ L) : s.Ok L :=
  ⟨h.m0, h.m1, h.w0, h.w1, h.e0, h.e1, h.t0, Int.le_trans h.t1 hl, h.c0, by have := h.c1; omega, h.st, h.mark_u⟩
theorem slow_ok (s : St) (n : Int) {K : Int} (h : s.Ok K) (hn : 1 ≤ n) : (s.slow n).Ok K := by
  have m0 := h.m0; have w0 := h.w0; have t0 := h.t0; have t1 := h.t1
  have hw := cap_bd (s.window + mn n s.mss) (by unfold mn; split <;> omega)
  unfold St.slow St.grow
  split
  · exact ⟨h.m0, h.m1, hw.1, hw.2, h.e0, h.e1, h.t0, h.t1, Int.le_refl 0, show (0 : Int) ≤ K * 1073741824 by omega, .inr (.inl rfl), h.mark_u⟩
  · exact ⟨h.m0, h.m1, hw.1, hw.2, h.e0, h.e1, h.t0, h.t1, h.c0, h.c1, h.st, h.mark_u⟩
theorem avoid_ok (s : St) (n : Int) {K : Int} (h : s.Ok K) (hn : 1 ≤ n) : (s.avoid n).Ok (K + 1) := by
  have m0 := h.m0; have w0 := h.w0; have t0 := h.t0; have t1 := h.t1; have c0 := h.c0; have c1 := h.c1
  have hc := cap_bd n (by omega)
  have hw := cap_bd (s.window + s.mss) (by omega)
  unfold St.avoid St.count
  split
  · exact ⟨h.m0, h.m1, hw.1, hw.2, h.e0, h.e1, h.t0, show s.twices ≤ K + 1 by omega, show 0 ≤ s.counted + cap n - s.window by omega, show s.counted + cap n - s.window ≤ (K + 1) * 1073741824 by omega, h.st, h.mark_u⟩
  · exact ⟨h.m0, h.m1, h.w0, h.w1, h.e0, h.e1, h.t0, show s.twices ≤ K + 1 by omega, show 0 ≤ s.counted + cap n by omega, show s.counted + cap n ≤ (K + 1) * 1073741824 by omega, h.st, h.mark_u⟩
theorem recov_ok (s : St) (u n : Int) {K : Int} (h : s.Ok K) : (s.recov u n).1.Ok K := by
  have m0 := h.m0; have w0 := h.w0; have t0 := h.t0; have t1 := h.t1
  unfold St.recov
  split
  · exact ⟨h.m0, h.m1, h.e0, h.e1, h.e0, h.e1, h.t0, h.t1, Int.le_refl 0, show (0 : Int) ≤ K * 1073741824 by omega, .inr (.inl rfl), h.mark_u⟩
  · have hw := cap_bd (mx (s.window - n) s.mss + (if s.mss ≤ n then s.mss else 0)) (by have := mx_ge (s.window - n) s.mss (by omega); split <;> omega)
    exact ⟨h.m0, h.m1, hw.1, hw.2, h.e0, h.e1, h.t0, h.t1, h.c0, h.c1, h.st, h.mark_u⟩
theorem fresh_ok (s : St) {K : Int} (h : s.Ok K) : s.fresh.Ok K := by
  have t0 := h.t0; have t1 := h.t1
  exact ⟨h.m0, h.m1, h.w0, h.w1, h.e0, h.e1, Int.le_refl 0, show (0 : Int) ≤ K by omega, h.c0, h.c1, h.st, h.mark_u⟩
theorem acked_ok (s : St) (u n : Int) {K : Int} (h : s.Ok K) : (s.acked u n).1.Ok (K + 1) := by
  unfold St.acked
  split
  · exact h.mono (by omega)
  split
  · exact (slow_ok _ n (fresh_ok s h) (by omega)).mono (by omega)
  split
  · exact avoid_ok _ n (fresh_ok s h) (by omega)
  · exact (recov_ok _ u n (fresh_ok s h)).mono (by omega)
theorem twice_ok (s : St) (u next f : Int) {K : Int} (h : s.Ok K) (hx : 0 ≤ next ∧ next ≤ 4294967295) : (s.twice u next f).1.Ok (K + 1) := by
  have m0 := h.m0; have w0 := h.w0; have t0 := h.t0; have t1 := h.t1; have c1 := h.c1
  have hE := cap_bd (mx (f.tdiv 2) (2 * s.mss)) (mx_ge _ _ (by omega))
  have hW := cap_bd (s.window + s.mss) (by omega)
  have hV := cap_bd (cap (mx (f.tdiv 2) (2 * s.mss)) + 3 * s.mss) (by omega)
  unfold St.twice
  split
  · exact ⟨h.m0, h.m1, hW.1, hW.2, h.e0, h.e1, h.t0, show s.twices ≤ K + 1 by omega, h.c0, show s.counted ≤ (K + 1) * 1073741824 by omega, h.st, h.mark_u⟩
  split
  · exact ⟨h.m0, h.m1, hV.1, hV.2, hE.1, hE.2, show 0 ≤ s.twices + 1 by omega, show s.twices + 1 ≤ K + 1 by omega, h.c0, show s.counted ≤ (K + 1) * 1073741824 by omega, .inr (.inr rfl), fun x hx' => by cases hx'; exact hx⟩
  · exact ⟨h.m0, h.m1, h.w0, h.w1, h.e0, h.e1, show 0 ≤ s.twices + 1 by omega, show s.twices + 1 ≤ K + 1 by omega, h.c0, show s.counted ≤ (K + 1) * 1073741824 by omega, h.st, h.mark_u⟩
theorem late_ok (s : St) (next f : Int) {K : Int} (h : s.Ok K) (hx : 0 ≤ next ∧ next ≤ 4294967295) : (s.late next f).Ok K := by
  have m0 := h.m0; have m1 := h.m1; have t0 := h.t0; have t1 := h.t1
  have hE := cap_bd (mx (f.tdiv 2) (2 * s.mss)) (mx_ge _ _ (by omega))
  exact ⟨h.m0, h.m1, show 0 ≤ s.mss by omega, show s.mss ≤ 1073741824 by omega, hE.1, hE.2, Int.le_refl 0, show (0 : Int) ≤ K by omega, Int.le_refl 0, show (0 : Int) ≤ K * 1073741824 by omega, .inl rfl, fun x hx' => by cases hx'; exact hx⟩
theorem start_ok (m : Int) (h : 1 ≤ m ∧ m ≤ 65535) : (start m).Ok 0 := by
  have hw : 0 ≤ mn (4 * m) (mx 4380 (2 * m)) ∧ mn (4 * m) (mx 4380 (2 * m)) ≤ 1073741824 := by unfold mn mx; (repeat' split) <;> omega
  exact ⟨h.1, h.2, hw.1, hw.2, show (0 : Int) ≤ 1073741824 by omega, Int.le_refl _, Int.le_refl 0, Int.le_refl 0, Int.le_refl 0, show (0 : Int) ≤ 0 * 1073741824 by omega, .inl rfl, fun x hx => by cases hx⟩

/-- The state s lies at b, beyond the blocks that w0 has; and those are as they were. -/
structure Lone (w0 : World) (b : Nat) (s : St) (w : World) : Prop where
  is : At w b s
  below : Below w0.heap.size w0 w
  ge : w0.heap.size ≤ b
theorem Lone.ch {w0 w w' : World} {b : Nat} {s s' : St} (h : Lone w0 b s w) (h1 : At w' b s') (h2 : Ch (· = b) w w') : Lone w0 b s' w' :=
  ⟨h1, h.below.trans (h2.below w0.heap.size h.below.size (fun k hk e => by have := h.ge; omega)), h.ge⟩
theorem new_l (m : Int) (w0 w : World) (h0 : Below w0.heap.size w0 w) (h : 1 ≤ m ∧ m ≤ 65535) :
    Calls Try.prog 8 #[.int .i64 m] w fun e w' => e = .returned (.tuple #[.pointer (some ⟨w.heap.size, 0, none⟩), .int .i64 0]) ∧ Lone w0 w.heap.size (start m) w' := by
  refine (new_c m w h).mono ?_
  rintro e w' ⟨rfl, rfl⟩
  exact ⟨rfl, ⟨none, Has.new _ _ _, .inl ⟨rfl, rfl⟩⟩, h0.alloc h0.size _, h0.size⟩
theorem acked_l {w0 w : World} {b : Nat} {s : St} (una n : Int) (h : Lone w0 b s w) {K : Int} (ho : s.Ok K) (hK : K ≤ 1000) (hn : n ≤ 9223372036854775807) :
    Calls Try.prog 11 #[.pointer (some ⟨b, 0, none⟩), .int .u32 una, .int .i64 n] w fun e w' => e = .returned (.bool (s.acked una n).2) ∧ Lone w0 b (s.acked una n).1 w' := by
  refine (acked_k s b una n w h.is ho hK hn).mono ?_
  rintro e w' ⟨rfl, h1, h2⟩
  exact ⟨rfl, h.ch h1 h2⟩
theorem twice_l {w0 w : World} {b : Nat} {s : St} (una next f : Int) (h : Lone w0 b s w) {K : Int} (ho : s.Ok K) (hK : K ≤ 1000) (hf : -9223372036854775808 ≤ f ∧ f ≤ 9223372036854775807) :
    Calls Try.prog 10 #[.pointer (some ⟨b, 0, none⟩), .int .u32 una, .int .u32 next, .int .i64 f] w fun e w' => e = .returned (.bool (s.twice una next f).2) ∧ Lone w0 b (s.twice una next f).1 w' := by
  refine (twice_k s b una next f w h.is ho hK hf).mono ?_
  rintro e w' ⟨rfl, h1, h2⟩
  exact ⟨rfl, h.ch h1 h2⟩
theorem late_l {w0 w : World} {b : Nat} {s : St} (next f : Int) (h : Lone w0 b s w) {K : Int} (ho : s.Ok K) (hf : -9223372036854775808 ≤ f ∧ f ≤ 9223372036854775807) :
    Calls Try.prog 16 #[.pointer (some ⟨b, 0, none⟩), .int .u32 next, .int .i64 f] w fun e w' => e = .returned (.tuple #[]) ∧ Lone w0 b (s.late next f) w' := by
  refine (late_k s b next f w h.is ho hf).mono ?_
  rintro e w' ⟨rfl, h1, h2⟩
  exact ⟨rfl, h.ch h1 h2⟩
theorem window_l {w0 w : World} {b : Nat} {s : St} (h : Lone w0 b s w) : Calls Try.prog 18 #[.pointer (some ⟨b, 0, none⟩)] w fun e w' => e = .returned (.int .i64 s.window) ∧ w = w' := by
  obtain ⟨mp, hh, _⟩ := h.is; exact window_c s b mp w hh
theorem edge_l {w0 w : World} {b : Nat} {s : St} (h : Lone w0 b s w) : Calls Try.prog 19 #[.pointer (some ⟨b, 0, none⟩)] w fun e w' => e = .returned (.int .i64 s.edge) ∧ w = w' := by
  obtain ⟨mp, hh, _⟩ := h.is; exact edge_c s b mp w hh
theorem state_l {w0 w : World} {b : Nat} {s : St} (h : Lone w0 b s w) : Calls Try.prog 12 #[.pointer (some ⟨b, 0, none⟩)] w fun e w' => e = .returned (.int .u8 s.state) ∧ w = w' := by
  obtain ⟨mp, hh, _⟩ := h.is; exact state_c s b mp w hh

set_option maxHeartbeats 4000000 in
set_option maxRecDepth 100000 in
theorem alive_k (w0 w : World) (h0 : Below w0.heap.size w0 w) : Calls Try.prog 9 #[] w fun e w' => e = .returned (.bool true) ∧ Below w0.heap.size w0 w' := by
  go_enter Try.func9, Try.ntmps9
  go_wp2_with fail
  refine (new_l 1000 w0 w h0 ⟨by decide, by decide⟩).mono ?_
  rintro e w1 ⟨rfl, HL⟩
  rw [show start 1000 = (⟨1000, 4000, 1073741824, 0, 0, 0, none⟩ : St) from by decide +kernel] at HL
  go_wp2_with fail
  refine (new_no 0 _ (by decide)).mono ?_
  rintro e w2 ⟨rfl, rfl⟩
  go_wp2_with fail
  refine (window_l HL).mono ?_
  rintro e w2 ⟨rfl, rfl⟩
  go_wp2_with fail
  refine (acked_l 1000 1000 HL (K := 1000) (by refine ⟨by decide +kernel, by decide +kernel, by decide +kernel, by decide +kernel, by decide +kernel, by decide +kernel, by decide +kernel, by decide +kernel, by decide +kernel, by decide +kernel, by decide +kernel, ?_⟩; intro x hx; first | (cases hx; done) | (obtain rfl : 6000 = x := Option.some.inj hx; decide)) (by decide) (by decide)).mono ?_
  clear HL
  rintro e w1 ⟨rfl, HL⟩
  rw [show St.acked (⟨1000, 4000, 1073741824, 0, 0, 0, none⟩ : St) 1000 1000 = ((⟨1000, 5000, 1073741824, 0, 0, 0, none⟩ : St), false) from by decide +kernel] at HL ⊢
  go_wp2_with fail
  refine (window_l HL).mono ?_
  rintro e w2 ⟨rfl, rfl⟩
  go_wp2_with fail
  refine (twice_l 1000 6000 5000 HL (K := 1000) (by refine ⟨by decide +kernel, by decide +kernel, by decide +kernel, by decide +kernel, by decide +kernel, by decide +kernel, by decide +kernel, by decide +kernel, by decide +kernel, by decide +kernel, by decide +kernel, ?_⟩; intro x hx; first | (cases hx; done) | (obtain rfl : 6000 = x := Option.some.inj hx; decide)) (by decide) ⟨by decide, by decide⟩).mono ?_
  clear HL
  rintro e w1 ⟨rfl, HL⟩
  rw [show St.twice (⟨1000, 5000, 1073741824, 0, 0, 0, none⟩ : St) 1000 6000 5000 = ((⟨1000, 5000, 1073741824, 0, 1, 0, none⟩ : St), false) from by decide +kernel] at HL ⊢
  go_wp2_with fail
  refine (twice_l 1000 6000 5000 HL (K := 1000) (by refine ⟨by decide +kernel, by decide +kernel, by decide +kernel, by decide +kernel, by decide +kernel, by decide +kernel, by decide +kernel, by decide +kernel, by decide +kernel, by decide +kernel, by decide +kernel, ?_⟩; intro x hx; first | (cases hx; done) | (obtain rfl : 6000 = x := Option.some.inj hx; decide)) (by decide) ⟨by decide, by decide⟩).mono ?_
  clear HL
  rintro e w1 ⟨rfl, HL⟩
  rw [show St.twice (⟨1000, 5000, 1073741824, 0, 1, 0, none⟩ : St) 1000 6000 5000 = ((⟨1000, 5000, 1073741824, 0, 2, 0, none⟩ : St), false) from by decide +kernel] at HL ⊢
  go_wp2_with fail
  refine (twice_l 1000 6000 5000 HL (K := 1000) (by refine ⟨by decide +kernel, by decide +kernel, by decide +kernel, by decide +kernel, by decide +kernel, by decide +kernel, by decide +kernel, by decide +kernel, by decide +kernel, by decide +kernel, by decide +kernel, ?_⟩; intro x hx; first | (cases hx; done) | (obtain rfl : 6000 = x := Option.some.inj hx; decide)) (by decide) ⟨by decide, by decide⟩).mono ?_
  clear HL
  rintro e w1 ⟨rfl, HL⟩
  rw [show St.twice (⟨1000, 5000, 1073741824, 0, 2, 0, none⟩ : St) 1000 6000 5000 = ((⟨1000, 5500, 2500, 2, 3, 0, some 6000⟩ : St), true) from by decide +kernel] at HL ⊢
  go_wp2_with fail
  refine (window_l HL).mono ?_
  rintro e w2 ⟨rfl, rfl⟩
  go_wp2_with fail
  refine (state_l HL).mono ?_
  rintro e w2 ⟨rfl, rfl⟩
  go_wp2_with fail
  refine (acked_l 6000 5000 HL (K := 1000) (by refine ⟨by decide +kernel, by decide +kernel, by decide +kernel, by decide +kernel, by decide +kernel, by decide +kernel, by decide +kernel, by decide +kernel, by decide +kernel, by decide +kernel, by decide +kernel, ?_⟩; intro x hx; first | (cases hx; done) | (obtain rfl : 6000 = x := Option.some.inj hx; decide)) (by decide) (by decide)).mono ?_
  clear HL
  rintro e w1 ⟨rfl, HL⟩
  rw [show St.acked (⟨1000, 5500, 2500, 2, 3, 0, some 6000⟩ : St) 6000 5000 = ((⟨1000, 2500, 2500, 1, 0, 0, some 6000⟩ : St), false) from by decide +kernel] at HL ⊢
  go_wp2_with fail
  refine (window_l HL).mono ?_
  rintro e w2 ⟨rfl, rfl⟩
  go_wp2_with fail
  refine (edge_l HL).mono ?_
  rintro e w2 ⟨rfl, rfl⟩
  go_wp2_with fail
  refine (state_l HL).mono ?_
  rintro e w2 ⟨rfl, rfl⟩
  go_wp2
  go_ret
  exact ⟨by first | rfl | (simp; done), HL.below⟩
end Go.Proofs.Ytbodppjponepgaa.Cg
