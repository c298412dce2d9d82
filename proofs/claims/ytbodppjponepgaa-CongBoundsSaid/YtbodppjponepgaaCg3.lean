import Derived.Test.YtbodppjponepgaaMp
namespace Go.Proofs.Ytbodppjponepgaa.Cg
open Go.RowKit Blk Go.Proofs.YtbodppjponepgaaW.PrintWords Go.Proofs.YtbodppjponepgaaW.PrintMore
attribute [local go_sem] max2_int min2_int max_two min_two
set_option linter.unusedVariables false

def St.fresh (s : St) : St := ⟨s.mss, s.window, s.edge, s.state, 0, s.counted, s.mark⟩
def St.acked (s : St) (una n : Int) : St × Bool :=
  if n < 1 then (s, false) else if s.state = 0 then (s.fresh.slow n, false) else if s.state = 1 then (s.fresh.avoid n, false) else s.fresh.recov una n

theorem mark_ch {w w' : World} {b : Nat} {m : Option Int} {mp : Option Addr} (h : Mark w b m mp) (k : Ch (· = b) w w') : Mark w' b m mp := by
  rcases h with h | ⟨x, k', h1, h2, h3, h4⟩
  · exact .inl h
  · exact .inr ⟨x, k', h1, h2, h3, h4.ch k h3⟩

set_option maxHeartbeats 2000000 in
theorem acked_slow (s : St) (b : Nat) (mp : Option Addr) (una n : Int) (w : World) (hh : Has w b (s.cells mp) 47) (hm : Mark w b s.mark mp) {K : Int} (ho : s.Ok K) (hK : K ≤ 1000) (hn : 1 ≤ n ∧ n ≤ 9223372036854775807) (hs : s.state = 0) :
    Calls Try.prog 11 #[.pointer (some ⟨b, 0, none⟩), .int .u32 una, .int .i64 n] w fun e w' => e = .returned (.bool (s.fresh.slow n, false).2) ∧ Has w' b ((s.fresh.slow n, false).1.cells mp) 47 ∧ Ch (· = b) w w' := by
  have H := Lib.hid hh
  have HM := Lib.hid hm
  have c3 : w.cell? ⟨b, 3, none⟩ = some (.int .u8 0) := by rw [← hs]; exact hh.cell rfl
  have c4 : w.cell? ⟨b, 4, none⟩ = some (.int .i64 s.twices) := hh.cell rfl
  have f4 := hh.free 4
  have hb := hh.lt
  have hsz : ∀ v, (w.setCell ⟨b, 4, none⟩ v).heap.size = w.heap.size := fun v => size_set w _ v
  have m0 := fun W => run_makeMap (P := Try.prog) 50 W
  have p0 := put0
  have p1 := put1
  have p2 := put2
  have l0 := look0
  clear hh hs hm
  have HO := Lib.hid ho
  clear ho
  go_enter Try.func11, Try.ntmps11
  go_wp2_with fail
  clear p0 p1 p2 l0 m0 hsz c3 c4 f4
  have h := HO.out
  have hcc : s.counted ≤ 1125899906842624 := by have := h.c1; omega
  have HX := Has.alloc (H.out.set 4 (.int .i64 0)) (.map (E3 (.func (.func 23) #[.pointer (some ⟨b, 0, none⟩)] #[]) (.func (.func 24) #[.pointer (some ⟨b, 0, none⟩)] #[]) (.func (.func 25) #[.pointer (some ⟨b, 0, none⟩)] #[])) 3)
  have HY := Ch.alloc ((Ch.refl (· = b) w).atb 4 (.int .i64 0)) (.map (E3 (.func (.func 23) #[.pointer (some ⟨b, 0, none⟩)] #[]) (.func (.func 24) #[.pointer (some ⟨b, 0, none⟩)] #[]) (.func (.func 25) #[.pointer (some ⟨b, 0, none⟩)] #[])) 3)
  refine (slow_c s.fresh b mp una n _ HX ⟨h.m0, h.m1⟩ hn ⟨h.w0, h.w1⟩).mono ?_
  rintro e w' ⟨rfl, h1, h2⟩
  have H1 := Lib.hid h1
  have H2 := Lib.hid (HY.trans h2)
  clear h h1 h2 HX HY hcc
  go_wp2
  go_ret
  exact ⟨rfl, H1.out, H2.out⟩

set_option maxHeartbeats 2000000 in
theorem acked_avoid (s : St) (b : Nat) (mp : Option Addr) (una n : Int) (w : World) (hh : Has w b (s.cells mp) 47) (hm : Mark w b s.mark mp) {K : Int} (ho : s.Ok K) (hK : K ≤ 1000) (hn : 1 ≤ n ∧ n ≤ 9223372036854775807) (hs : s.state = 1) :
    Calls Try.prog 11 #[.pointer (some ⟨b, 0, none⟩), .int .u32 una, .int .i64 n] w fun e w' => e = .returned (.bool (s.fresh.avoid n, false).2) ∧ Has w' b ((s.fresh.avoid n, false).1.cells mp) 47 ∧ Ch (· = b) w w' := by
  have H := Lib.hid hh
  have HM := Lib.hid hm
  have c3 : w.cell? ⟨b, 3, none⟩ = some (.int .u8 1) := by rw [← hs]; exact hh.cell rfl
  have c4 : w.cell? ⟨b, 4, none⟩ = some (.int .i64 s.twices) := hh.cell rfl
  have f4 := hh.free 4
  have hb := hh.lt
  have hsz : ∀ v, (w.setCell ⟨b, 4, none⟩ v).heap.size = w.heap.size := fun v => size_set w _ v
  have m0 := fun W => run_makeMap (P := Try.prog) 50 W
  have p0 := put0
  have p1 := put1
  have p2 := put2
  have l0 := look1
  clear hh hs hm
  have HO := Lib.hid ho
  clear ho
  go_enter Try.func11, Try.ntmps11
  go_wp2_with fail
  clear p0 p1 p2 l0 m0 hsz c3 c4 f4
  have h := HO.out
  have hcc : s.counted ≤ 1125899906842624 := by have := h.c1; omega
  have HX := Has.alloc (H.out.set 4 (.int .i64 0)) (.map (E3 (.func (.func 23) #[.pointer (some ⟨b, 0, none⟩)] #[]) (.func (.func 24) #[.pointer (some ⟨b, 0, none⟩)] #[]) (.func (.func 25) #[.pointer (some ⟨b, 0, none⟩)] #[])) 3)
  have HY := Ch.alloc ((Ch.refl (· = b) w).atb 4 (.int .i64 0)) (.map (E3 (.func (.func 23) #[.pointer (some ⟨b, 0, none⟩)] #[]) (.func (.func 24) #[.pointer (some ⟨b, 0, none⟩)] #[]) (.func (.func 25) #[.pointer (some ⟨b, 0, none⟩)] #[])) 3)
  refine (avoid_c s.fresh b mp una n _ HX ⟨h.m0, h.m1⟩ ⟨h.w0, h.w1⟩ ⟨h.c0, hcc⟩ hn.1).mono ?_
  rintro e w' ⟨rfl, h1, h2⟩
  have H1 := Lib.hid h1
  have H2 := Lib.hid (HY.trans h2)
  clear h h1 h2 HX HY hcc
  go_wp2
  go_ret
  exact ⟨rfl, H1.out, H2.out⟩

set_option maxHeartbeats 2000000 in
theorem acked_recov (s : St) (b : Nat) (mp : Option Addr) (una n : Int) (w : World) (hh : Has w b (s.cells mp) 47) (hm : Mark w b s.mark mp) {K : Int} (ho : s.Ok K) (hK : K ≤ 1000) (hn : 1 ≤ n ∧ n ≤ 9223372036854775807) (hs : s.state = 2) :
    Calls Try.prog 11 #[.pointer (some ⟨b, 0, none⟩), .int .u32 una, .int .i64 n] w fun e w' => e = .returned (.bool (s.fresh.recov una n).2) ∧ Has w' b ((s.fresh.recov una n).1.cells mp) 47 ∧ Ch (· = b) w w' := by
  have H := Lib.hid hh
  have HM := Lib.hid hm
  have c3 : w.cell? ⟨b, 3, none⟩ = some (.int .u8 2) := by rw [← hs]; exact hh.cell rfl
  have c4 : w.cell? ⟨b, 4, none⟩ = some (.int .i64 s.twices) := hh.cell rfl
  have f4 := hh.free 4
  have hb := hh.lt
  have hsz : ∀ v, (w.setCell ⟨b, 4, none⟩ v).heap.size = w.heap.size := fun v => size_set w _ v
  have m0 := fun W => run_makeMap (P := Try.prog) 50 W
  have p0 := put0
  have p1 := put1
  have p2 := put2
  have l0 := look2
  clear hh hs hm
  have HO := Lib.hid ho
  clear ho
  go_enter Try.func11, Try.ntmps11
  go_wp2_with fail
  clear p0 p1 p2 l0 m0 hsz c3 c4 f4
  have h := HO.out
  have hcc : s.counted ≤ 1125899906842624 := by have := h.c1; omega
  have HX := Has.alloc (H.out.set 4 (.int .i64 0)) (.map (E3 (.func (.func 23) #[.pointer (some ⟨b, 0, none⟩)] #[]) (.func (.func 24) #[.pointer (some ⟨b, 0, none⟩)] #[]) (.func (.func 25) #[.pointer (some ⟨b, 0, none⟩)] #[])) 3)
  have HY := Ch.alloc ((Ch.refl (· = b) w).atb 4 (.int .i64 0)) (.map (E3 (.func (.func 23) #[.pointer (some ⟨b, 0, none⟩)] #[]) (.func (.func 24) #[.pointer (some ⟨b, 0, none⟩)] #[]) (.func (.func 25) #[.pointer (some ⟨b, 0, none⟩)] #[])) 3)
  refine (recover_v s.fresh b mp una n _ HX (mark_ch HM.out HY) ⟨h.m0, h.m1⟩ ⟨h.w0, h.w1⟩ hn).mono ?_
  rintro e w' ⟨rfl, h1, h2⟩
  have H1 := Lib.hid h1
  have H2 := Lib.hid (HY.trans h2)
  clear h h1 h2 HX HY hcc
  go_wp2
  go_ret
  exact ⟨rfl, H1.out, H2.out⟩

set_option maxHeartbeats 2000000 in
theorem acked_no (s : St) (b : Nat) (una n : Int) (w : World) (hn : n < 1) :
    Calls Try.prog 11 #[.pointer (some ⟨b, 0, none⟩), .int .u32 una, .int .i64 n] w fun e w' => e = .returned (.bool false) ∧ w = w' := by
  go_enter Try.func11, Try.ntmps11
  go_wp2
  go_ret
  exact ⟨rfl, rfl⟩
theorem mark_grow (s : St) (v : Int) : (s.grow v).mark = s.mark := by unfold St.grow; split <;> rfl
theorem mark_count (s : St) (v : Int) : (s.count v).mark = s.mark := by unfold St.count; split <;> rfl
theorem mark_recov (s : St) (u n : Int) : (s.recov u n).1.mark = s.mark := by unfold St.recov; split <;> rfl
theorem acked_k (s : St) (b : Nat) (una n : Int) (w : World) (h : At w b s) {K : Int} (ho : s.Ok K) (hK : K ≤ 1000) (hn : n ≤ 9223372036854775807) :
    Calls Try.prog 11 #[.pointer (some ⟨b, 0, none⟩), .int .u32 una, .int .i64 n] w fun e w' => e = .returned (.bool (s.acked una n).2) ∧ At w' b (s.acked una n).1 ∧ Ch (· = b) w w' := by
  unfold St.acked
  by_cases c : n < 1
  · rw [if_pos c]
    refine (acked_no s b una n w c).mono ?_
    rintro e w' ⟨rfl, rfl⟩
    exact ⟨rfl, h, Ch.refl _ _⟩
  rw [if_neg c]
  obtain ⟨mp, hh, hm⟩ := h
  by_cases c0 : s.state = 0
  · rw [if_pos c0]
    refine (acked_slow s b mp una n w hh hm ho hK ⟨by omega, hn⟩ c0).mono ?_
    rintro e w' ⟨rfl, h1, h2⟩
    refine ⟨rfl, ⟨mp, h1, ?_⟩, h2⟩
    show Mark w' b (s.fresh.slow n).mark mp
    rw [St.slow, mark_grow]
    exact mark_ch hm h2
  rw [if_neg c0]
  by_cases c1 : s.state = 1
  · rw [if_pos c1]
    refine (acked_avoid s b mp una n w hh hm ho hK ⟨by omega, hn⟩ c1).mono ?_
    rintro e w' ⟨rfl, h1, h2⟩
    refine ⟨rfl, ⟨mp, h1, ?_⟩, h2⟩
    show Mark w' b (s.fresh.avoid n).mark mp
    rw [St.avoid, mark_count]
    exact mark_ch hm h2
  rw [if_neg c1]
  have c2 : s.state = 2 := by have := ho.st; omega
  refine (acked_recov s b mp una n w hh hm ho hK ⟨by omega, hn⟩ c2).mono ?_
  rintro e w' ⟨rfl, h1, h2⟩
  refine ⟨rfl, ⟨mp, h1, ?_⟩, h2⟩
  rw [mark_recov]
  exact mark_ch hm h2

def St.lost (s : St) (next flight : Int) : St := ⟨s.mss, s.window, cap (mx (flight.tdiv 2) (2 * s.mss)), s.state, s.twices, s.counted, some next⟩
theorem lost_k (s : St) (b : Nat) (mp : Option Addr) (next flight : Int) (w : World) (h : Has w b (s.cells mp) 47) (hm : 1 ≤ s.mss ∧ s.mss ≤ 65535) (hf : -9223372036854775808 ≤ flight ∧ flight ≤ 9223372036854775807) :
    Calls Try.prog 22 #[.pointer (some ⟨b, 0, none⟩), .int .u32 next, .int .i64 flight] w fun e w' => e = .returned (.tuple #[]) ∧ Has w' b ((s.lost next flight).cells (some ⟨w.heap.size, 0, none⟩)) 47 ∧ Has w' w.heap.size [.int .u32 next] 23 ∧ Ch (· = b) w w' := by
  refine (lost_c s b mp next flight w h hm hf).mono ?_
  rintro e w' ⟨rfl, rfl⟩
  refine ⟨rfl, (((h.set 2 _).set 6 _).alloc _), ?_, ((((Ch.refl _ _).atb _ _).atb _ _).alloc _)⟩
  have := Has.new ((w.setCell ⟨b, 2, none⟩ (.int .i64 (cap (mx (flight.tdiv 2) (2 * s.mss))))).setCell ⟨b, 6, none⟩ (.pointer (some ⟨w.heap.size, 0, none⟩))) [.int .u32 next] 23
  rw [size_set, size_set] at this
  exact this

def St.late (s : St) (next flight : Int) : St := ⟨s.mss, s.mss, cap (mx (flight.tdiv 2) (2 * s.mss)), 0, 0, 0, some next⟩
set_option maxHeartbeats 2000000 in
theorem late_k (s : St) (b : Nat) (next flight : Int) (w : World) (h : At w b s) {K : Int} (ho : s.Ok K) (hf : -9223372036854775808 ≤ flight ∧ flight ≤ 9223372036854775807) :
    Calls Try.prog 16 #[.pointer (some ⟨b, 0, none⟩), .int .u32 next, .int .i64 flight] w fun e w' => e = .returned (.tuple #[]) ∧ At w' b (s.late next flight) ∧ Ch (· = b) w w' := by
  obtain ⟨mp, hh, hm⟩ := h
  have m0 := ho.m0
  have m1 := ho.m1
  have hb := hh.lt
  have H0 := Lib.hid hh
  clear hh hm ho
  go_enter Try.func16, Try.ntmps16
  go_wp2_with fail
  refine (lost_k s b mp next flight _ H0.out ⟨m0, m1⟩ hf).mono ?_
  rintro e w' ⟨rfl, h1, h2, h3⟩
  have H := Lib.hid h1
  have HN := Lib.hid h2
  have HC := Lib.hid h3
  have c0 : w'.cell? ⟨b, 0, none⟩ = some (.int .i64 s.mss) := h1.cell rfl
  have c1 : w'.cell? ⟨b, 1, none⟩ = some (.int .i64 s.window) := h1.cell rfl
  have c3 : w'.cell? ⟨b, 3, none⟩ = some (.int .u8 s.state) := h1.cell rfl
  have c4 : w'.cell? ⟨b, 4, none⟩ = some (.int .i64 s.twices) := h1.cell rfl
  have c5 : w'.cell? ⟨b, 5, none⟩ = some (.int .i64 s.counted) := h1.cell rfl
  have f1 := h1.free 1
  have f3 := h1.free 3
  have f4 := h1.free 4
  have f5 := h1.free 5
  clear h1 h2 h3
  go_wp2
  have hne : w.heap.size ≠ b := by omega
  go_end0
  exact ⟨rfl, ⟨_, cast (by repeat (first | with_reducible exact H.out | with_reducible apply Has.set)) (by rfl), .inr ⟨next, w.heap.size, rfl, rfl, hne, HN.out.ch (B := (· = b)) (by repeat (first | with_reducible exact Ch.refl _ _ | with_reducible apply Ch.atb)) hne⟩⟩, HC.out.trans (by repeat (first | with_reducible exact Ch.refl _ _ | with_reducible apply Ch.atb))⟩

/-- One answer more that comes again. -/
def St.more (s : St) : St := ⟨s.mss, s.window, s.edge, s.state, s.twices + 1, s.counted, s.mark⟩
def St.hit (s : St) (next flight : Int) : St := ⟨s.mss, cap (cap (mx (flight.tdiv 2) (2 * s.mss)) + 3 * s.mss), cap (mx (flight.tdiv 2) (2 * s.mss)), 2, s.twices + 1, s.counted, some next⟩
def St.wide (s : St) : St := ⟨s.mss, cap (s.window + s.mss), s.edge, s.state, s.twices, s.counted, s.mark⟩
def St.twice (s : St) (una next flight : Int) : St × Bool :=
  if s.state = 2 then (s.wide, false) else if s.twices + 1 = 3 ∧ s.passed una = true then (s.hit next flight, true) else (s.more, false)

set_option maxHeartbeats 2000000 in
theorem twice_wide (s : St) (b : Nat) (mp : Option Addr) (una next flight : Int) (w : World) (hh : Has w b (s.cells mp) 47) {K : Int} (ho : s.Ok K) (hs : s.state = 2) :
    Calls Try.prog 10 #[.pointer (some ⟨b, 0, none⟩), .int .u32 una, .int .u32 next, .int .i64 flight] w fun e w' => e = .returned (.bool false) ∧ Has w' b (s.wide.cells mp) 47 ∧ Ch (· = b) w w' := by
  have m0 := ho.m0
  have m1 := ho.m1
  have w0 := ho.w0
  have w1 := ho.w1
  have H := Lib.hid hh
  have c0 : w.cell? ⟨b, 0, none⟩ = some (.int .i64 s.mss) := hh.cell rfl
  have c1 : w.cell? ⟨b, 1, none⟩ = some (.int .i64 s.window) := hh.cell rfl
  have c3 : w.cell? ⟨b, 3, none⟩ = some (.int .u8 2) := by rw [← hs]; exact hh.cell rfl
  have f1 := hh.free 1
  clear hh ho hs
  go_enter Try.func10, Try.ntmps10
  go_wp2
  go_still_tail 10, (by kernel_rfl)
  change wpList _ _ _ _ _ w.drew
  go_wp2_with fail
  refine (to_c b _ s.window _ (by go_simp) (by go_simp)).mono ?_
  rintro e w' ⟨rfl, rfl⟩
  go_wp2
  go_ret
  exact ⟨rfl, cast (by repeat (first | with_reducible exact H.out | with_reducible apply Has.set | with_reducible apply Has.drew)) (by rfl), by repeat (first | with_reducible exact Ch.refl _ _ | with_reducible apply Ch.atb | with_reducible apply Ch.drew)⟩

set_option maxHeartbeats 2000000 in
theorem twice_more (s : St) (b : Nat) (mp : Option Addr) (una next flight : Int) (w : World) (hh : Has w b (s.cells mp) 47) (hm : Mark w b s.mark mp) {K : Int} (ho : s.Ok K) (hK : K ≤ 1000) (hs : s.state ≠ 2) (hn : ¬ (s.twices + 1 = 3 ∧ s.passed una = true)) :
    Calls Try.prog 10 #[.pointer (some ⟨b, 0, none⟩), .int .u32 una, .int .u32 next, .int .i64 flight] w fun e w' => e = .returned (.bool false) ∧ Has w' b (s.more.cells mp) 47 ∧ Ch (· = b) w w' := by
  have t0 := ho.t0
  have t1 := ho.t1
  have H := Lib.hid hh
  have HM := Lib.hid hm
  have c3 : w.cell? ⟨b, 3, none⟩ = some (.int .u8 s.state) := hh.cell rfl
  have c4 : w.cell? ⟨b, 4, none⟩ = some (.int .i64 s.twices) := hh.cell rfl
  have f4 := hh.free 4
  have e2 := beq_f hs
  clear hh ho hs hm
  by_cases ct : s.twices + 1 = 3
  · have hp : s.passed una = false := by rw [Bool.eq_false_iff]; exact fun x => hn ⟨ct, x⟩
    have HP := Lib.hid hp
    have e3 : (s.twices + 1 != 3) = false := by rw [ct]; rfl
    clear hp ct hn
    go_enter Try.func10, Try.ntmps10
    go_wp2_with fail
    refine (passed_c s.more b una _ ⟨mp, H.out.set 4 _, mark_ch HM.out ((Ch.refl _ _).atb _ _)⟩).mono ?_
    rintro e w' ⟨rfl, rfl⟩
    rw [show s.more.passed una = false from HP.out]
    go_wp2
    go_ret
    exact ⟨rfl, H.out.set 4 _, (Ch.refl _ _).atb _ _⟩
  · have e3 : (s.twices + 1 != 3) = true := by rw [bne, beq_f ct]; rfl
    clear ct hn
    go_enter Try.func10, Try.ntmps10
    go_wp2
    go_ret
    exact ⟨rfl, H.out.set 4 _, (Ch.refl _ _).atb _ _⟩

set_option maxHeartbeats 2000000 in
theorem twice_hit (s : St) (b : Nat) (mp : Option Addr) (una next flight : Int) (w : World) (hh : Has w b (s.cells mp) 47) (hm : Mark w b s.mark mp) {K : Int} (ho : s.Ok K) (hK : K ≤ 1000) (hs : s.state ≠ 2) (hn : s.twices + 1 = 3 ∧ s.passed una = true) (hf : -9223372036854775808 ≤ flight ∧ flight ≤ 9223372036854775807) :
    Calls Try.prog 10 #[.pointer (some ⟨b, 0, none⟩), .int .u32 una, .int .u32 next, .int .i64 flight] w fun e w' => e = .returned (.bool true) ∧ At w' b (s.hit next flight) ∧ Ch (· = b) w w' := by
  have m0 := ho.m0
  have m1 := ho.m1
  have H := Lib.hid hh
  have HM := Lib.hid hm
  have c3 : w.cell? ⟨b, 3, none⟩ = some (.int .u8 s.state) := hh.cell rfl
  have c4 : w.cell? ⟨b, 4, none⟩ = some (.int .i64 s.twices) := hh.cell rfl
  have f4 := hh.free 4
  have hb := hh.lt
  have e2 := beq_f hs
  have HP := Lib.hid hn.2
  have e3 : (s.twices + 1 != 3) = false := by rw [hn.1]; rfl
  have t0 := ho.t0
  have t1 := ho.t1
  clear hh ho hs hm hn
  go_enter Try.func10, Try.ntmps10
  go_wp2_with fail
  refine (passed_c s.more b una _ ⟨mp, H.out.set 4 _, mark_ch HM.out ((Ch.refl _ _).atb _ _)⟩).mono ?_
  rintro e w' ⟨rfl, rfl⟩
  rw [show s.more.passed una = true from HP.out]
  go_wp2_with fail
  refine (lost_k s.more b mp next flight _ (H.out.set 4 _) ⟨m0, m1⟩ hf).mono ?_
  rintro e w' ⟨rfl, h1, h2, h3⟩
  rw [size_set] at h1 h2
  have G := Lib.hid h1
  have HN := Lib.hid h2
  have HC := Lib.hid (((Ch.refl (· = b) w).atb 4 _).trans h3)
  clear c3 c4 f4
  have c0 : w'.cell? ⟨b, 0, none⟩ = some (.int .i64 s.mss) := h1.cell rfl
  have c1 : w'.cell? ⟨b, 1, none⟩ = some (.int .i64 s.window) := h1.cell rfl
  have c2 : w'.cell? ⟨b, 2, none⟩ = some (.int .i64 (cap (mx (flight.tdiv 2) (2 * s.mss)))) := h1.cell rfl
  have c3 : w'.cell? ⟨b, 3, none⟩ = some (.int .u8 s.state) := h1.cell rfl
  have f1 := h1.free 1
  have f3 := h1.free 3
  have hcap : 0 ≤ cap (mx (flight.tdiv 2) (2 * s.mss)) ∧ cap (mx (flight.tdiv 2) (2 * s.mss)) ≤ 1073741824 := by unfold cap mn mx; (repeat' split) <;> omega
  clear h1 h2 h3
  have hcl : Hid (cap (mx (flight.tdiv 2) (2 * s.mss)) = cap (mx (flight.tdiv 2) (2 * s.mss))) := Lib.hid rfl
  obtain ⟨hcap0, hcap1⟩ := hcap
  generalize hE : cap (mx (flight.tdiv 2) (2 * s.mss)) = E at c2 hcap0 hcap1
  have HE := Lib.hid hE
  clear hE hcl
  go_wp2
  go_still_tail 11, (by kernel_rfl)
  change wpList _ _ _ _ _ w'.drew
  go_wp2_with fail
  refine (to_c b _ s.window _ (by go_simp) (by go_simp)).mono ?_
  rintro e w2 ⟨rfl, rfl⟩
  generalize hV : cap (E + 3 * s.mss) = V
  have HV := Lib.hid hV
  clear hV
  go_wp2
  go_ret
  have hne : w.heap.size ≠ b := by omega
  exact ⟨rfl, ⟨_, cast (by repeat (first | with_reducible exact G.out | with_reducible apply Has.set | with_reducible apply Has.drew)) (by unfold St.hit; rw [HE.out, HV.out, ← HE.out]; rfl), .inr ⟨next, w.heap.size, rfl, rfl, hne, HN.out.ch (B := (· = b)) (by repeat (first | with_reducible exact Ch.refl _ _ | with_reducible apply Ch.atb | with_reducible apply Ch.drew)) hne⟩⟩, HC.out.trans (by repeat (first | with_reducible exact Ch.refl _ _ | with_reducible apply Ch.atb | with_reducible apply Ch.drew))⟩

theorem twice_k (s : St) (b : Nat) (una next flight : Int) (w : World) (h : At w b s) {K : Int} (ho : s.Ok K) (hK : K ≤ 1000) (hf : -9223372036854775808 ≤ flight ∧ flight ≤ 9223372036854775807) :
    Calls Try.prog 10 #[.pointer (some ⟨b, 0, none⟩), .int .u32 una, .int .u32 next, .int .i64 flight] w fun e w' => e = .returned (.bool (s.twice una next flight).2) ∧ At w' b (s.twice una next flight).1 ∧ Ch (· = b) w w' := by
  unfold St.twice
  obtain ⟨mp, hh, hm⟩ := h
  by_cases c : s.state = 2
  · rw [if_pos c]
    refine (twice_wide s b mp una next flight w hh ho c).mono ?_
    rintro e w' ⟨rfl, h1, h2⟩
    exact ⟨rfl, ⟨mp, h1, mark_ch hm h2⟩, h2⟩
  rw [if_neg c]
  by_cases c1 : s.twices + 1 = 3 ∧ s.passed una = true
  · rw [if_pos c1]
    exact twice_hit s b mp una next flight w hh hm ho hK c c1 hf
  · rw [if_neg c1]
    refine (twice_more s b mp una next flight w hh hm ho hK c c1).mono ?_
    rintro e w' ⟨rfl, h1, h2⟩
    exact ⟨rfl, ⟨mp, h1, mark_ch hm h2⟩, h2⟩
end Go.Proofs.Ytbodppjponepgaa.Cg
