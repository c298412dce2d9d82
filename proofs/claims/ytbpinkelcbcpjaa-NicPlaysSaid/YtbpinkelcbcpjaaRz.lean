import Derived.Test.YtbpinkelcbcpjaaRy
namespace Go.Proofs.Ytbpinkelcbcpjaa.Ni
open Go.RowKit Blk Go.Proofs.YtbpinkelcbcpjaaW.PrintWords
set_option linter.unusedVariables false

theorem len_come (s : St) (y : Sl) : (s.come y).1.qs.length = s.qs.length := by
  unfold St.come
  split
  · rfl
  · exact setq_len _ _ _
theorem len_poll (s : St) (a n : Int) : (s.poll a n).1.qs.length = s.qs.length := by
  unfold St.poll
  split
  · exact setq_len _ _ _
  · rfl
theorem len_send (s : St) (a : Int) (t : ByteArray) : (s.send a t).1.qs.length = s.qs.length := by
  unfold St.send
  split
  · split
    · rfl
    · exact setq_len _ _ _
  · rfl
theorem len_gone (s : St) (a n : Int) : (s.gone a n).1.qs.length = s.qs.length := by
  unfold St.gone
  split
  · exact setq_len _ _ _
  · rfl
theorem len_table (s : St) (l : List Int) : (s.table l).1.qs.length = s.qs.length := by
  unfold St.table
  split <;> rfl
theorem cyc_le {α : Type} (l : List α) (fr k : Nat) : (cyc l fr k).length ≤ k := by
  unfold cyc
  simp only [List.length_append, List.length_take, List.length_drop]
  omega
theorem poll_le (s : St) (ok : s.Ok) (a n : Int) : (s.poll a n).2.1.length ≤ 1000 := by
  unfold St.poll
  split
  · rename_i hx
    obtain ⟨i, rfl⟩ := Int.eq_ofNat_of_zero_le hx.1.1
    have hi2 : i < s.qs.length := by have := hx.1.2; omega
    have hok := (ok.at' i hi2).2
    have h1 := cyc_le (s.qu i).a (s.qu i).af (tk n (s.qu i).an)
    have h2 := tk_le n (s.qu i).an
    have h3 := hok.na
    have h4 := ok.s8
    show (cyc (s.qu i).a (s.qu i).af (tk n (s.qu i).an)).length ≤ 1000
    omega
  · exact Nat.zero_le _
theorem gone_le (s : St) (ok : s.Ok) (a n : Int) : (s.gone a n).2.length ≤ 1000 := by
  unfold St.gone
  split
  · rename_i hx
    obtain ⟨i, rfl⟩ := Int.eq_ofNat_of_zero_le hx.1
    have hi2 : i < s.qs.length := by have := hx.2; omega
    have hok := (ok.at' i hi2).2
    have h1 := cyc_le (s.qu i).o (s.qu i).of (tk n (s.qu i).on)
    have h2 := tk_le n (s.qu i).on
    have h3 := hok.no
    have h4 := ok.s8
    show (cyc (s.qu i).o (s.qu i).of (tk n (s.qu i).on)).length ≤ 1000
    omega
  · exact Nat.zero_le _
section
variable {w0 w : World} {top b base b' k : Nat} {s s1 : St} {r : Rf} {x : Op.Stp}
theorem t_mk' {d hash q n : Int} {st : ByteArray} {odd : Bool} (h : Tr w0 top b base b' s r k ⟨d, hash, st, q, n, odd⟩ w) : Calls Try.prog 30 #[.agg #[.int .i64 d, .int .u32 hash, .string st, .int .i64 q, .int .i64 n, .bool odd]] w fun e w' => ∃ A c, e = .returned (.slice A (tabl ⟨d, hash, st, q, n, odd⟩).length c) ∧ Mr w0 top b base b' s r k ⟨d, hash, st, q, n, odd⟩ A c w' := t_mk h
theorem t_table' {A : Option Addr} {c : Nat} (h : Mr w0 top b base b' s r k x A c w) :
    Calls Try.prog 21 #[.pointer (some ⟨b, 0, none⟩), .slice A (tabl x).length c] w fun e w' => e = .returned (.int .i64 (s.table (tabl x)).2) ∧ Tr w0 top b base b' (s.table (tabl x)).1 r k x w' := t_table h
theorem t_put' {A : Option Addr} {c : Nat} (h : Mr w0 top b base b' s r k x A c w) (hs : Sim s1 r) :
    Calls Try.prog 31 #[.pointer (some ⟨b', 0, none⟩), .slice A (tabl x).length c] w fun e w' => e = .returned (.int .i64 (s1.table (tabl x)).2) ∧ Tr w0 top b base b' s (r.put (tabl x)).1 k x w' := t_put h hs
end
/-- What stands between two steps. -/
structure Bt (w0 : World) (top b base b' N : Nat) (s : St) (r : Rf) (w : World) : Prop where
  p : Pa w0 top b s w
  re : Re w base b' r
  sim : Sim s r
  tb : top ≤ base
  bz : base ≤ w.heap.size
  n : s.qs.length = N
def DoPost (w0 : World) (top b base b' N : Nat) (e : Ending) (w' : World) : Prop := e = .returned (.bool true) ∧ ∃ s r, Bt w0 top b base b' N s r w'
theorem do_post {w0 : World} {top b base b' N : Nat} {e : Ending} {w' : World} {s : St} {r : Rf} {k : Nat} {x : Op.Stp} (h : e = .returned (.bool true)) (ht : Tr w0 top b base b' s r k x w') (hs : Sim s r) (hn : s.qs.length = N) : DoPost w0 top b base b' N e w' :=
  ⟨h, s, r, ⟨ht.p, ht.r, hs, ht.tb, ht.bz, hn⟩⟩
set_option maxHeartbeats 20000000 in
set_option maxRecDepth 100000 in
theorem does_c {w0 w : World} {top b base b' N : Nat} {s : St} {r : Rf} (h : Bt w0 top b base b' N s r w) (x : Op.Stp) (hx : x.Ok) :
    Calls Try.prog 12 #[.pointer (some ⟨b, 0, none⟩), .pointer (some ⟨b', 0, none⟩), .agg (stp x).toArray] w (DoPost w0 top b base b' N) := by
  obtain ⟨d, hash, st, q, n, odd⟩ := x
  obtain ⟨hh, hst, hq, hn⟩ := hx
  dsimp only at hh hst hq hn
  have HT0 : Tr w0 top b base b' s r w.heap.size ⟨d, hash, st, q, n, odd⟩ (w.alloc (.cells (stp ⟨d, hash, st, q, n, odd⟩).toArray 34)) :=
    ⟨h.p.still ((Ch.refl _ _).alloc _), h.re.still ((Ch.refl _ _).alloc _), Has.new w _ 34, h.tb, by rw [alloc_size]; exact Nat.le_succ_of_le h.bz, h.bz⟩
  have HS := Lib.hid h.sim
  have HK := Lib.hid h.p.ok
  have HN := Lib.hid h.n
  have hst2 : (stp ⟨d, hash, st, q, n, odd⟩).toArray = #[.int .i64 d, .int .u32 hash, .string st, .int .i64 q, .int .i64 n, .bool odd] := rfl
  rw [hst2] at HT0 ⊢
  clear h hst2
  obtain ⟨W, hW⟩ : ∃ W, W = w.alloc (.cells #[.int .i64 d, .int .u32 hash, .string st, .int .i64 q, .int .i64 n, .bool odd] 34) := ⟨_, rfl⟩
  obtain ⟨kx, hkx⟩ : ∃ kx, kx = w.heap.size := ⟨_, rfl⟩
  rw [← hW, ← hkx] at HT0
  have HT := Lib.hid HT0
  clear HT0
  by_cases d0 : d = 0
  · as_aux_lemma =>
    subst d0
    go_enter Try.func12, Try.ntmps12
    go_wp2_with fail
    rw [← hW, ← hkx]
    clear hW hkx
    refine (slot_c hash st W).mono ?_
    rintro e w1 ⟨rfl, hC⟩
    have HT1 := HT.out.still hC
    clear hC HT
    go_wp2_with fail
    refine (t_came HT1 (hash, st) hh).mono ?_
    clear HT1
    rintro e w2 ⟨rfl, HT2⟩
    obtain ⟨_, c1, c2, _⟩ := HT2.cells
    dsimp only at c1 c2
    have H2 := Lib.hid HT2
    clear HT2
    go_wp2_with fail
    refine (slot_c hash st w2).mono ?_
    rintro e w3 ⟨rfl, hC⟩
    have HT3 := H2.out.still hC
    clear hC c1 c2 H2
    go_wp2_with fail
    refine (t_rcame HT3 (hash, st) hh HS.out HK.out).mono ?_
    clear HT3
    rintro e w4 ⟨rfl, HT4⟩
    have H4 := Lib.hid HT4
    have hs' := HS.out.come HK.out (hash, st)
    have HS' := Lib.hid hs'.2
    have HL := Lib.hid ((len_come s (hash, st)).trans HN.out)
    clear HT4 hs'
    generalize s.pick (hash, st).1 = pk at *
    generalize (s.come (hash, st)).2 = er at *
    go_wp2
    go_ret
    exact do_post rfl H4.out HS'.out HL.out
  · by_cases d1 : d = 1
    · as_aux_lemma =>
      subst d1
      have c3 : W.cell? ⟨kx, 3, none⟩ = some (.int .i64 q) := HT.out.cells.2.2.2.1
      have c4 : W.cell? ⟨kx, 4, none⟩ = some (.int .i64 n) := HT.out.cells.2.2.2.2.1
      go_enter Try.func12, Try.ntmps12
      go_wp2_with fail
      rw [← hW, ← hkx]
      clear hW hkx
      refine (t_poll HT.out q n).mono ?_
      rintro e w2 ⟨⟨A, rfl, hq1⟩, HT2⟩
      obtain ⟨_, _, _, y3, y4, _⟩ := HT2.cells
      dsimp only at y3 y4
      have H2 := Lib.hid HT2
      have HQ1 := Lib.hid hq1
      have hle := poll_le s HK.out q n
      clear HT2 hq1 c3 c4 HT
      go_wp2_with fail
      refine (t_rpoll H2.out q n HS.out HK.out).mono ?_
      rintro e w3 ⟨⟨A2, c2, rfl, hq2⟩, HT3, hkp⟩
      have hq1 := hkp.q rfl HQ1.out
      have H3 := Lib.hid HT3
      have hs' := HS.out.poll HK.out q n
      have HS' := Lib.hid hs'.2
      have HL := Lib.hid ((len_poll s q n).trans HN.out)
      clear HT3 hkp hs' H2 HQ1 y3 y4
      go_wp2_with fail
      refine (same_c w3 _ _ A A2 _ c2 (s.poll q n).2.1 hq1 hq2 hle).mono ?_
      rintro e w4 ⟨rfl, hC⟩
      have H4 := Lib.hid (H3.out.still hC)
      clear hC H3 hq1 hq2 hle
      generalize (s.poll q n).2.2 = er at *
      go_wp2
      go_ret
      exact do_post rfl H4.out HS'.out HL.out
    · by_cases d2 : d = 2
      · as_aux_lemma =>
        subst d2
        go_enter Try.func12, Try.ntmps12
        go_wp2
        rw [← hW, ← hkx]
        clear hW hkx
        have HTd : Tr w0 top b base b' s r kx ⟨2, hash, st, q, n, odd⟩ W.drew := HT.out.still (Ch.refl _ _).drew
        have HTd0 := HT.out
        obtain ⟨_, _, y2, y3, _⟩ := HTd0.cells
        dsimp only at y2 y3
        go_region_held3 (fun w' => w'.cell? ⟨kx, 2, none⟩ = some (.string st) ∧ w'.cell? ⟨kx, 3, none⟩ = some (.int .i64 q)) (exact ⟨by assumption, by assumption⟩) (first | (go_at_call 22; refine (t_send (by assumption) q st).mono ?_; rintro e w9 ⟨rfl, HT⟩; obtain ⟨_, _, y2, y3, _⟩ := HT.cells; dsimp only at y2 y3) | (go_at_call 28; refine (t_rsend (by assumption) q st HS.out HK.out).mono ?_; rintro e w9 ⟨rfl, HT⟩; obtain ⟨_, _, y2, y3, _⟩ := HT.cells; dsimp only at y2 y3))
        all_goals
          clear y2 y3
          have hs' := HS.out.send HK.out q st
          have HS' := Lib.hid hs'.2
          have HL := Lib.hid ((len_send s q st).trans HN.out)
          have H4 := Lib.hid HT
          clear hs' HT
          generalize (s.send q st).2 = er at *
          go_wp2
          go_ret
          exact do_post rfl H4.out HS'.out HL.out
      · by_cases d3 : d = 3
        · as_aux_lemma =>
          subst d3
          go_enter Try.func12, Try.ntmps12
          go_wp2
          rw [← hW, ← hkx]
          clear hW hkx
          have HTd : Tr w0 top b base b' s r kx ⟨3, hash, st, q, n, odd⟩ W.drew := HT.out.still (Ch.refl _ _).drew
          have HTd0 := HT.out
          obtain ⟨_, _, _, y3, y4, _⟩ := HTd0.cells
          dsimp only at y3 y4
          go_region_held3 (fun w' => w'.cell? ⟨kx, 3, none⟩ = some (.int .i64 q) ∧ w'.cell? ⟨kx, 4, none⟩ = some (.int .i64 n)) (exact ⟨by assumption, by assumption⟩) (first | (go_at_call 23; refine (t_gone (by assumption) q n).mono ?_; rintro e w9 ⟨A, rfl, HG⟩; obtain ⟨_, _, _, y3, y4, _⟩ := HG.t.cells; dsimp only at y3 y4) | (go_at_call 29; refine (t_rgone (by assumption) q n HS.out HK.out).mono ?_; rintro e w9 ⟨A2, c2, rfl, hq2, HG2⟩; obtain ⟨_, _, _, y3, y4, _⟩ := HG2.t.cells; dsimp only at y3 y4))
          all_goals
            clear y3 y4
            have hq1 := HG2.q
            have hle := gone_le s HK.out q n
            have hs' := HS.out.gone HK.out q n
            have HS' := Lib.hid hs'.2
            have HL := Lib.hid ((len_gone s q n).trans HN.out)
            have H4 := Lib.hid HG2.t
            clear hs' HG HG2
            obtain ⟨l, hl⟩ : ∃ l, l = (s.gone q n).2 := ⟨_, rfl⟩
            rw [← hl] at hq1 hq2 hle ⊢
            clear hl
            have HQ1 := Lib.hid hq1
            have HQ2 := Lib.hid hq2
            obtain ⟨m, hm⟩ : ∃ m, m = l.length := ⟨_, rfl⟩
            rw [← hm] at HQ1 HQ2 hle ⊢
            have HM := Lib.hid hm
            clear hq1 hq2 hm
            obtain ⟨wo, hwo⟩ : ∃ wo : World, wo = w9 := ⟨_, rfl⟩
            rw [← hwo] at HQ1 HQ2 H4 ⊢
            clear hwo
            go_wp2
            go_loopg [17] m (fun g vi wr => ∃ k : Nat, k + g = m ∧ vi = .int .i64 k ∧ Hid (Ch nob wo wr))
            case atStart => exact ⟨0, by omega, rfl, Lib.hid (Ch.refl _ _)⟩
            case round =>
              obtain ⟨k, hkg, rfl, HC⟩ := hrel
              by_cases hk : k < m
              · obtain ⟨pt, hp⟩ : ∃ pt, (strs l)[k]? = some (.string pt) := by
                  unfold strs
                  rw [List.getElem?_map, List.getElem?_eq_getElem (by rw [← HM.out]; exact hk)]
                  exact ⟨_, rfl⟩
                have r1 := (Keeps.ofNone (T := fun _ => True) HC.out).q trivial HQ1.out
                have r2 := (Keeps.ofNone (T := fun _ => True) HC.out).q trivial HQ2.out
                obtain ⟨g1, o1, rfl, _, h1⟩ := q_at r1 (by omega)
                obtain ⟨g2, o2, rfl, _, h2⟩ := q_at r2 (by omega)
                have x0 := (h1 _ _ hp).1
                have y0 := (h2 _ _ hp).1
                have hk3 : (k : Int) < (m : Int) := by omega
                clear h1 h2 r1 r2 hp
                go_wp2
                go_quiet (fail)
                go_wp2
                go_roundg (m - (k + 1))
                case measure => omega
                case rel => exact ⟨k + 1, by omega, by go_num, Lib.hid (HC.out.drewN _)⟩
              · obtain rfl : k = m := by omega
                go_wp2
                go_ret
                exact do_post rfl (H4.out.still HC.out) HS'.out HL.out
        · by_cases d4 : d = 4
          · as_aux_lemma =>
            subst d4
            go_enter Try.func12, Try.ntmps12
            go_wp2
            rw [← hW, ← hkx]
            clear hW hkx
            have HTd : Tr w0 top b base b' s r kx ⟨4, hash, st, q, n, odd⟩ W.drew := HT.out.still (Ch.refl _ _).drew
            have HTd0 := HT.out
            obtain ⟨y0, y1, y2, y3, y4, y5⟩ := HTd0.cells
            dsimp only at y0 y1 y2 y3 y4 y5
            go_region_held3 (fun w' => w'.cell? ⟨kx, 0, none⟩ = some (.int .i64 4) ∧ w'.cell? ⟨kx, 1, none⟩ = some (.int .u32 hash) ∧ w'.cell? ⟨kx, 2, none⟩ = some (.string st) ∧ w'.cell? ⟨kx, 3, none⟩ = some (.int .i64 q) ∧ w'.cell? ⟨kx, 4, none⟩ = some (.int .i64 n) ∧ w'.cell? ⟨kx, 5, none⟩ = some (.bool odd)) (exact ⟨by assumption, by assumption, by assumption, by assumption, by assumption, by assumption⟩) (first | (go_at_call 30; refine (t_mk' (by assumption)).mono ?_; rintro e w9 ⟨A, c, rfl, HM⟩; obtain ⟨y0, y1, y2, y3, y4, y5⟩ := HM.t.cells; dsimp only at y0 y1 y2 y3 y4 y5) | (go_at_call 21; refine (t_table' (x := ⟨4, hash, st, q, n, odd⟩) (by assumption)).mono ?_; rintro e w9 ⟨rfl, HT⟩; obtain ⟨y0, y1, y2, y3, y4, y5⟩ := HT.cells; dsimp only at y0 y1 y2 y3 y4 y5) | (go_at_call 31; refine (t_put' (x := ⟨4, hash, st, q, n, odd⟩) (by assumption) HS.out).mono ?_; rintro e w9 ⟨rfl, HT⟩; obtain ⟨y0, y1, y2, y3, y4, y5⟩ := HT.cells; dsimp only at y0 y1 y2 y3 y4 y5))
            all_goals
              clear y0 y1 y2 y3 y4 y5
              have hs' := HS.out.table (tabl ⟨4, hash, st, q, n, odd⟩)
              have HS' := Lib.hid hs'.2
              have HL := Lib.hid ((len_table s (tabl ⟨4, hash, st, q, n, odd⟩)).trans HN.out)
              have H4 := Lib.hid HT
              clear hs' HT
              generalize (s.table (tabl ⟨4, hash, st, q, n, odd⟩)).2 = er at *
              go_wp2
              go_ret
              exact do_post rfl H4.out HS'.out HL.out
          · as_aux_lemma =>
              have c0 : W.cell? ⟨kx, 0, none⟩ = some (.int .i64 d) := HT.out.cells.1
              go_enter Try.func12, Try.ntmps12
              go_wp2
              rw [← hW]
              go_ret
              exact do_post rfl HT.out HS.out HN.out
end Go.Proofs.Ytbpinkelcbcpjaa.Ni
