import Derived.Test.YtbpinkelcbcpjaaRx
import Derived.Test.YtbpinkelcbcpjaaWEqStruct
import Derived.Deep.RegionHeld3
namespace Go.Proofs.Ytbpinkelcbcpjaa.Ni
open Go.RowKit Blk Go.Proofs.YtbpinkelcbcpjaaW.PrintWords
set_option linter.unusedVariables false

theorem Re.up {w w' : World} {base top b : Nat} {r : Rf} (h : Re w base b r) (ht : top ≤ base) (hu : Up top w w') : Re w' base b r := by
  obtain ⟨g, h⟩ := h
  exact ⟨g, h.low (T := fun _ => True) (hu.mono fun k _ hk => by omega)⟩
theorem Re.still {w w' : World} {base b : Nat} {r : Rf} (h : Re w base b r) (hc : Ch nob w w') : Re w' base b r := by
  obtain ⟨g, h⟩ := h
  exact ⟨g, h.still hc⟩
/-- Both objects, and a step of the script. -/
structure Tr (w0 : World) (top b base b' : Nat) (s : St) (r : Rf) (k : Nat) (x : Op.Stp) (w : World) : Prop where
  p : Pa w0 top b s w
  r : Re w base b' r
  y : Has w k (stp x) 34
  tb : top ≤ base
  bz : base ≤ w.heap.size
  kb : base ≤ k
section
variable {w0 w w' : World} {top b base b' k : Nat} {s s1 : St} {r r1 : Rf} {x : Op.Stp}
theorem Tr.still (h : Tr w0 top b base b' s r k x w) (hc : Ch nob w w') : Tr w0 top b base b' s r k x w' :=
  ⟨h.p.still hc, h.r.still hc, h.y.ch hc id, h.tb, Nat.le_trans h.bz hc.size, h.kb⟩
theorem Tr.byP {s' : St} (h : Tr w0 top b base b' s r k x w) (hp : Pa w0 top b s' w') (hu : Up top w w') : Tr w0 top b base b' s' r k x w' :=
  ⟨hp, h.r.up h.tb hu, h.y.ch hu (by have := h.tb; have := h.kb; omega), h.tb, Nat.le_trans h.bz hu.size, h.kb⟩
theorem Tr.byR {r' : Rf} (h : Tr w0 top b base b' s r k x w) (hr : Re w' base b' r') {T : TypeId → Prop} (hf : Fk base T w w') (h3 : T 3) (h34 : T 34) : Tr w0 top b base b' s r' k x w' :=
  ⟨h.p.keep (hf.below.mono h.tb) (hf.kept.mono fun t ht => by subst ht; exact h3), hr, hf.kept.has h34 h.y, h.tb, Nat.le_trans h.bz hf.below.size, h.kb⟩
theorem Tr.cells (h : Tr w0 top b base b' s r k x w) : w.cell? ⟨k, 0, none⟩ = some (.int .i64 x.d) ∧ w.cell? ⟨k, 1, none⟩ = some (.int .u32 x.hash) ∧ w.cell? ⟨k, 2, none⟩ = some (.string x.s) ∧ w.cell? ⟨k, 3, none⟩ = some (.int .i64 x.q) ∧ w.cell? ⟨k, 4, none⟩ = some (.int .i64 x.n) ∧ w.cell? ⟨k, 5, none⟩ = some (.bool x.odd) :=
  ⟨h.y.cell rfl, h.y.cell rfl, h.y.cell rfl, h.y.cell rfl, h.y.cell rfl, h.y.cell rfl⟩
theorem t_came (h : Tr w0 top b base b' s r k x w) (y : Sl) (hh : 0 ≤ y.1 ∧ y.1 ≤ 4294967295) :
    Calls Try.prog 18 #[.pointer (some ⟨b, 0, none⟩), .agg #[.int .u32 y.1, .string y.2]] w fun e w' => e = .returned (.tuple #[.int .i64 (s.pick y.1), .int .i64 (s.come y).2]) ∧ Tr w0 top b base b' (s.come y).1 r k x w' := by
  refine (came_p h.p y hh).mono ?_
  rintro e w' ⟨rfl, hp, hu⟩
  exact ⟨rfl, h.byP hp hu⟩
theorem t_rcame (h : Tr w0 top b base b' s r k x w) (y : Sl) (hh : 0 ≤ y.1 ∧ y.1 ≤ 4294967295) (hs : Sim s1 r) (ok : s1.Ok) :
    Calls Try.prog 25 #[.pointer (some ⟨b', 0, none⟩), .agg #[.int .u32 y.1, .string y.2]] w fun e w' => e = .returned (.tuple #[.int .i64 (s1.pick y.1), .int .i64 (s1.come y).2]) ∧ Tr w0 top b base b' s (r.come y).1 k x w' := by
  obtain ⟨g, R⟩ := h.r
  obtain ⟨i, hi, hi2⟩ := ok.pick y.1
  have hp := hs.pick y.1
  have hn := hs.n
  refine (r_came R y hh (by rw [hs.tab]; exact ok.tl) (by rw [hp, hi, hn]; omega) (hs.insl ok _) (by rw [hs.sz]; exact ok.s8) h.bz).mono ?_
  rintro e w' ⟨rfl, hr, hf⟩
  rw [hp, (hs.come ok y).1]
  exact ⟨rfl, h.byR hr hf ⟨by decide, by decide, by decide⟩ ⟨by decide, by decide, by decide⟩⟩
theorem t_poll (h : Tr w0 top b base b' s r k x w) (a n : Int) :
    Calls Try.prog 20 #[.pointer (some ⟨b, 0, none⟩), .int .i64 a, .int .i64 n] w fun e w' => (∃ A, e = .returned (.tuple #[.slice A (s.poll a n).2.1.length (s.poll a n).2.1.length, .int .i64 (s.poll a n).2.2]) ∧ QRow w' w.heap.size 53 2 (.slice A (s.poll a n).2.1.length (s.poll a n).2.1.length) (s.poll a n).2.1.length (flat (s.poll a n).2.1)) ∧ Tr w0 top b base b' (s.poll a n).1 r k x w' := by
  refine (poll_p h.p a n).mono ?_
  rintro e w' ⟨⟨A, kk, rfl, rfl, hq⟩, hp, hu⟩
  exact ⟨⟨A, rfl, hq⟩, h.byP hp hu⟩
theorem t_rpoll (h : Tr w0 top b base b' s r k x w) (a n : Int) (hs : Sim s1 r) (ok : s1.Ok) :
    Calls Try.prog 26 #[.pointer (some ⟨b', 0, none⟩), .int .i64 a, .int .i64 n] w fun e w' => (∃ A c, e = .returned (.tuple #[.slice A (s1.poll a n).2.1.length c, .int .i64 (s1.poll a n).2.2]) ∧ QRow w' base 53 2 (.slice A (s1.poll a n).2.1.length c) (s1.poll a n).2.1.length (flat (s1.poll a n).2.1)) ∧ Tr w0 top b base b' s (r.poll a n).1 k x w' ∧ Keeps (fun t => t = 53) w w' := by
  obtain ⟨g, R⟩ := h.r
  refine (r_poll R a n (hs.insl ok) h.bz).mono ?_
  rintro e w' ⟨⟨A, c, kk, rfl, rfl, hq⟩, hr, hf⟩
  rw [(hs.poll ok a n).1] at hq ⊢
  exact ⟨⟨A, c, rfl, hq⟩, h.byR hr hf ⟨by decide, by decide⟩ ⟨by decide, by decide⟩, hf.kept.mono fun t ht => by subst ht; exact ⟨by decide, by decide⟩⟩
theorem t_send (h : Tr w0 top b base b' s r k x w) (a : Int) (t : ByteArray) :
    Calls Try.prog 22 #[.pointer (some ⟨b, 0, none⟩), .int .i64 a, .string t] w fun e w' => e = .returned (.int .i64 (s.send a t).2) ∧ Tr w0 top b base b' (s.send a t).1 r k x w' := by
  refine (send_p h.p a t).mono ?_
  rintro e w' ⟨rfl, hp, hu⟩
  exact ⟨rfl, h.byP hp hu⟩
theorem t_rsend (h : Tr w0 top b base b' s r k x w) (a : Int) (t : ByteArray) (hs : Sim s1 r) (ok : s1.Ok) :
    Calls Try.prog 28 #[.pointer (some ⟨b', 0, none⟩), .int .i64 a, .string t] w fun e w' => e = .returned (.int .i64 (s1.send a t).2) ∧ Tr w0 top b base b' s (r.send a t).1 k x w' := by
  obtain ⟨g, R⟩ := h.r
  refine (r_send R a t (hs.outl ok) (by rw [hs.sz]; exact ok.s8) h.bz).mono ?_
  rintro e w' ⟨rfl, hr, hf⟩
  rw [(hs.send ok a t).1]
  exact ⟨rfl, h.byR hr hf ⟨by decide, by decide, by decide⟩ ⟨by decide, by decide, by decide⟩⟩
/-- What the program's Gone has given stands. -/
structure Gr (w0 : World) (top b base b' : Nat) (s : St) (r : Rf) (k : Nat) (x : Op.Stp) (A : Option Addr) (l : List ByteArray) (w : World) : Prop where
  t : Tr w0 top b base b' s r k x w
  q : QRow w base 9 1 (.slice A l.length l.length) l.length (strs l)
theorem t_gone (h : Tr w0 top b base b' s r k x w) (a n : Int) :
    Calls Try.prog 23 #[.pointer (some ⟨b, 0, none⟩), .int .i64 a, .int .i64 n] w fun e w' => ∃ A, e = .returned (.slice A (s.gone a n).2.length (s.gone a n).2.length) ∧ Gr w0 top b base b' (s.gone a n).1 r k x A (s.gone a n).2 w' := by
  refine (gone_p h.p a n).mono ?_
  rintro e w' ⟨⟨A, kk, rfl, rfl, hq⟩, hp, hu⟩
  exact ⟨A, rfl, ⟨h.byP hp hu, q_lower hq h.bz⟩⟩
theorem t_rgone {A0 : Option Addr} {l0 : List ByteArray} (h : Gr w0 top b base b' s r k x A0 l0 w) (a n : Int) (hs : Sim s1 r) (ok : s1.Ok) :
    Calls Try.prog 29 #[.pointer (some ⟨b', 0, none⟩), .int .i64 a, .int .i64 n] w fun e w' => ∃ A c, e = .returned (.slice A (s1.gone a n).2.length c) ∧ QRow w' base 9 1 (.slice A (s1.gone a n).2.length c) (s1.gone a n).2.length (strs (s1.gone a n).2) ∧ Gr w0 top b base b' s (r.gone a n).1 k x A0 l0 w' := by
  obtain ⟨g, R⟩ := h.t.r
  refine (r_gone R a n (hs.outl ok) h.t.bz).mono ?_
  rintro e w' ⟨⟨A, c, kk, rfl, rfl, hq⟩, hr, hf⟩
  rw [(hs.gone ok a n).1] at hq ⊢
  exact ⟨A, c, rfl, hq, ⟨h.t.byR hr hf (by unfold TG; decide) (by unfold TG; decide), (hf.kept.mono (U := fun t => t = 9) fun t ht => by subst ht; unfold TG; decide).q rfl h.q⟩⟩
/-- A table that was made. -/
structure Mr (w0 : World) (top b base b' : Nat) (s : St) (r : Rf) (k : Nat) (x : Op.Stp) (A : Option Addr) (c : Nat) (w : World) : Prop where
  t : Tr w0 top b base b' s r k x w
  q : QRow w base 3 1 (.slice A (tabl x).length c) (tabl x).length ((tabl x).map (Value.int .i64))
theorem t_mk (h : Tr w0 top b base b' s r k x w) : Calls Try.prog 30 #[.agg (stp x).toArray] w fun e w' => ∃ A c, e = .returned (.slice A (tabl x).length c) ∧ Mr w0 top b base b' s r k x A c w' := by
  refine (mk_c x w).mono ?_
  rintro e w' ⟨⟨A, c, rfl, hq⟩, hc⟩
  exact ⟨A, c, rfl, ⟨h.still hc, q_lower hq h.bz⟩⟩
theorem t_table {A : Option Addr} {c : Nat} (h : Mr w0 top b base b' s r k x A c w) :
    Calls Try.prog 21 #[.pointer (some ⟨b, 0, none⟩), .slice A (tabl x).length c] w fun e w' => e = .returned (.int .i64 (s.table (tabl x)).2) ∧ Tr w0 top b base b' (s.table (tabl x)).1 r k x w' := by
  refine (table_p h.t.p A c (tabl x) h.q (tabl_len x)).mono ?_
  rintro e w' ⟨rfl, hp, hu⟩
  exact ⟨rfl, h.t.byP hp hu⟩
theorem t_put {A : Option Addr} {c : Nat} (h : Mr w0 top b base b' s r k x A c w) (hs : Sim s1 r) :
    Calls Try.prog 31 #[.pointer (some ⟨b', 0, none⟩), .slice A (tabl x).length c] w fun e w' => e = .returned (.int .i64 (s1.table (tabl x)).2) ∧ Tr w0 top b base b' s (r.put (tabl x)).1 k x w' := by
  obtain ⟨g, R⟩ := h.t.r
  refine (r_put R A c (tabl x) h.q (tabl_len x) h.t.bz).mono ?_
  rintro e w' ⟨rfl, hr, hf⟩
  rw [(hs.table (tabl x)).1]
  exact ⟨rfl, h.t.byR hr hf (by unfold TT; decide) (by unfold TT; decide)⟩
end
theorem eqI (d : Nat) (h : Int) (W : World) : (Op.equalIn (d + 1) 32 (.int .u32 h) (.int .u32 h)).run Try.prog W = .ok true W := by simp [Op.equalIn]
theorem eqT (d : Nat) (t : ByteArray) (W : World) : (Op.equalIn (d + 1) 9 (.string t) (.string t)).run Try.prog W = .ok true W := by
  rw [run_equalIn_string W d 9 t t Try.underlying9, beq_self_eq_true]
theorem eq53 (h : Int) (t : ByteArray) (W : World) : (Op.equalIn 10000 53 (.agg #[.int .u32 h, .string t]) (.agg #[.int .u32 h, .string t])).run Try.prog W = .ok true W := by
  refine eqA_of (d := 9999) Try.underlying53 (by kernel_rfl) ?_
  have e1 : (Op.equalIn 9999 32 (.int .u32 h) (.int .u32 h)).run Try.prog W = .ok true W := eqI 9998 h W
  have e2 : (Op.equalIn 9999 9 (.string t) (.string t)).run Try.prog W = .ok true W := eqT 9998 t W
  exact eqf_end rfl (by rfl) (by rfl) e1 (eqf_end rfl (by rfl) (by rfl) e2 eqf_nil)
set_option maxHeartbeats 2000000 in
theorem same_c (w : World) (b1 b2 : Nat) (A1 A2 : Option Addr) (c1 c2 : Nat) (l : List Sl) (hq1 : QRow w b1 53 2 (.slice A1 l.length c1) l.length (flat l)) (hq2 : QRow w b2 53 2 (.slice A2 l.length c2) l.length (flat l)) (hl : l.length ≤ 1000) :
    Calls Try.prog 27 #[.slice A1 l.length c1, .slice A2 l.length c2] w fun e w' => e = .returned (.bool true) ∧ Ch nob w w' := by
  have HQ1 := Lib.hid hq1
  have HQ2 := Lib.hid hq2
  have hE := eq53
  obtain ⟨n, hn⟩ : ∃ n, n = l.length := ⟨_, rfl⟩
  rw [← hn] at HQ1 HQ2 hl ⊢
  have HN := Lib.hid hn
  clear hq1 hq2 hn
  go_enter Try.func27, Try.ntmps27
  go_wp2
  go_loopg [5] n (fun g vi wr => ∃ k : Nat, k + g = n ∧ vi = .int .i64 k ∧ Hid (Ch nob w wr))
  case atStart => exact ⟨0, by omega, rfl, Lib.hid (Ch.refl _ _)⟩
  case round =>
    obtain ⟨k, hkg, rfl, HC⟩ := hrel
    by_cases hk : k < n
    · obtain ⟨⟨ph, pt⟩, hp⟩ : ∃ p, l[k]? = some p := ⟨_, List.getElem?_eq_getElem (by rw [← HN.out]; exact hk)⟩
      obtain ⟨d0, d1⟩ := flat_at l k _ hp
      have r1 : QRow wr b1 53 2 (.slice A1 n c1) n (flat l) := (Keeps.ofNone (T := fun _ => True) HC.out).q trivial HQ1.out
      have r2 : QRow wr b2 53 2 (.slice A2 n c2) n (flat l) := (Keeps.ofNone (T := fun _ => True) HC.out).q trivial HQ2.out
      obtain ⟨g1, o1, rfl, _, h1⟩ := q_at r1 (by omega)
      obtain ⟨g2, o2, rfl, _, h2⟩ := q_at r2 (by omega)
      have x0 : wr.cell? ⟨g1, o1 + k * 2, none⟩ = some (.int .u32 ph) := (h1 _ _ d0).1
      have x1 : wr.cell? ⟨g1, o1 + k * 2 + 1, none⟩ = some (.string pt) := by rw [Nat.add_assoc]; exact (h1 _ _ d1).1
      have y0 : wr.cell? ⟨g2, o2 + k * 2, none⟩ = some (.int .u32 ph) := (h2 _ _ d0).1
      have y1 : wr.cell? ⟨g2, o2 + k * 2 + 1, none⟩ = some (.string pt) := by rw [Nat.add_assoc]; exact (h2 _ _ d1).1
      have hk3 : (k : Int) < (n : Int) := by omega
      clear h1 h2 r1 r2 d0 d1 hp
      go_wp2
      go_quiet (fail)
      go_wp2
      go_roundg (n - (k + 1))
      case measure => omega
      case rel => exact ⟨k + 1, by omega, by go_num, Lib.hid (HC.out.drewN _)⟩
    · obtain rfl : k = n := by omega
      go_wp2
      go_ret
      exact ⟨rfl, HC.out⟩
end Go.Proofs.Ytbpinkelcbcpjaa.Ni
