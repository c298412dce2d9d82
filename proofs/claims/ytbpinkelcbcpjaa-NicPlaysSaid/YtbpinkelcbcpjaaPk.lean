import Derived.Test.YtbpinkelcbcpjaaCy
import Derived.Test.YtbpinkelcbcpjaaNp
import Derived.Test.YtbpinkelcbcpjaaRo
import Derived.Test.YtbpinkelcbcpjaaHv
namespace Go.Proofs.Ytbpinkelcbcpjaa.Ni
open Go.RowKit Blk Go.Proofs.YtbpinkelcbcpjaaW.PrintWords
set_option linter.unusedVariables false

/-- Blocks of the kinds that T tells are as they were. -/
def Keeps (T : TypeId → Prop) (w w' : World) : Prop := ∀ (k : Nat) (c : Array Value) (t : TypeId), T t → w.heap[k]? = some (.cells c t (0, 0)) → w'.heap[k]? = w.heap[k]?
theorem Keeps.has {T : TypeId → Prop} {w w' : World} (h : Keeps T w w') {b : Nat} {c : List Value} {t : TypeId} (hT : T t) (k : Has w b c t) : Has w' b c t := (h b _ t hT k).trans k
theorem Keeps.q {T : TypeId → Prop} {w w' : World} (h : Keeps T w w') {base n size : Nat} {e : TypeId} {v : Value} {xs : List Value} (hT : T e) (k : QRow w base e size v n xs) : QRow w' base e size v n xs :=
  q_move k fun j hj => by obtain ⟨_, cells, hc⟩ := q_typed k j hj; exact h j cells e hT hc
theorem Keeps.trans {T : TypeId → Prop} {w w1 w2 : World} (h : Keeps T w w1) (k : Keeps T w1 w2) : Keeps T w w2 := fun j c t hT hc => by
  have h1 := h j c t hT hc
  exact (k j c t hT (h1.trans hc)).trans h1
theorem Keeps.refl (T : TypeId → Prop) (w : World) : Keeps T w w := fun _ _ _ _ _ => rfl
theorem Keeps.mono {T U : TypeId → Prop} {w w' : World} (h : Keeps T w w') (hu : ∀ t, U t → T t) : Keeps U w w' := fun k c t hT hc => h k c t (hu t hT) hc
theorem Keeps.ofNone {T : TypeId → Prop} {w w' : World} (h : Ch nob w w') : Keeps T w w' := fun k c t _ hc => h.block k (Array.getElem?_eq_some_iff.1 hc).1 id
theorem Keeps.set {T : TypeId → Prop} {w w' : World} (h : Keeps T w w') (a : Addr) (v : Value) {c : List Value} {t : TypeId} (hb : Has w' a.block c t) (ht : ¬ T t) : Keeps T w (w'.setCell a v) := h.trans fun k d u hu hd => by
  refine heap_set _ _ _ _ fun e => ?_
  subst e
  unfold Has at hb
  rw [hb] at hd
  simp only [Option.some.injEq, Obj.cells.injEq] at hd
  exact ht (hd.2.1 ▸ hu)
theorem Keeps.grown {T : TypeId → Prop} {w w' w1 : World} (h : Keeps T w w') {row : Option Nat} (hg : w'.grownBy w1 row) (hr : ∀ k, row = some k → ∃ c t, w'.heap[k]? = some (.cells c t (0, 0)) ∧ ¬ T t) : Keeps T w w1 := h.trans fun k c t hT hc => by
  have hk : k < w'.heap.size := (Array.getElem?_eq_some_iff.1 hc).1
  refine hg.block k hk fun e => ?_
  obtain ⟨c', t', h1, h2⟩ := hr k e.symm
  rw [h1] at hc
  simp only [Option.some.injEq, Obj.cells.injEq] at hc
  exact h2 (hc.2.1 ▸ hT)
/-- The program's card. -/
structure Pa (w0 : World) (top b : Nat) (s : St) (w : World) : Prop where
  is : ∃ base L, w0.heap.size ≤ base ∧ At w base top b L s
  below : Below w0.heap.size w0 w
  bt : w0.heap.size ≤ top
section
variable {w0 w w' : World} {top b : Nat} {s s' : St}
theorem Own.pa (h : Own w0 top b s w) : Pa w0 top b s w := by
  obtain ⟨base, L, h1, hA, _⟩ := h.is
  exact ⟨⟨base, L, h1, hA⟩, h.below, h.bt⟩
theorem Pa.tz (h : Pa w0 top b s w) : top ≤ w.heap.size := by
  obtain ⟨base, L, _, hA⟩ := h.is
  exact hA.tz
theorem Pa.ok (h : Pa w0 top b s w) : s.Ok := by
  obtain ⟨base, L, _, hA⟩ := h.is
  exact hA.ok
theorem Pa.keep (h : Pa w0 top b s w) (hb : Below top w w') (hT : Keeps (· = 3) w w') : Pa w0 top b s w' := by
  obtain ⟨base, L, h1, hA⟩ := h.is
  exact ⟨⟨base, L, h1, hA.move hb.size (fun k _ hk => hb.block k hk) fun k hk => by
    obtain ⟨_, c, hc⟩ := q_typed hA.ht k hk
    exact hT k c 3 rfl hc⟩, h.below.trans (hb.mono h.bt), h.bt⟩
theorem Pa.still (h : Pa w0 top b s w) (hc : Ch nob w w') : Pa w0 top b s w' := h.keep (hc.below top h.tz fun _ _ => id) (Keeps.ofNone hc)
theorem came_p (h : Pa w0 top b s w) (x : Sl) (hh : 0 ≤ x.1 ∧ x.1 ≤ 4294967295) :
    Calls Try.prog 18 #[.pointer (some ⟨b, 0, none⟩), .agg #[.int .u32 x.1, .string x.2]] w fun e w' => e = .returned (.tuple #[.int .i64 (s.pick x.1), .int .i64 (s.come x).2]) ∧ Pa w0 top b (s.come x).1 w' ∧ Up top w w' := by
  obtain ⟨base, L, h1, hA⟩ := h.is
  refine (came_c hA x hh).mono ?_
  rintro e w' ⟨rfl, hA', hF⟩
  exact ⟨rfl, ⟨⟨base, L, h1, hA'⟩, fr_below hF h.below h1, h.bt⟩, fr_up hF⟩
theorem poll_p (h : Pa w0 top b s w) (x n : Int) :
    Calls Try.prog 20 #[.pointer (some ⟨b, 0, none⟩), .int .i64 x, .int .i64 n] w fun e w' => (∃ A k, k = (s.poll x n).2.1.length ∧ e = .returned (.tuple #[.slice A k k, .int .i64 (s.poll x n).2.2]) ∧ QRow w' w.heap.size 53 2 (.slice A k k) k (flat (s.poll x n).2.1)) ∧ Pa w0 top b (s.poll x n).1 w' ∧ Up top w w' := by
  obtain ⟨base, L, h1, hA⟩ := h.is
  refine (poll_c hA x n).mono ?_
  rintro e w' ⟨hE, hA', hF⟩
  exact ⟨hE, ⟨⟨base, L, h1, hA'⟩, fr_below hF h.below h1, h.bt⟩, fr_up hF⟩
theorem send_p (h : Pa w0 top b s w) (x : Int) (t : ByteArray) :
    Calls Try.prog 22 #[.pointer (some ⟨b, 0, none⟩), .int .i64 x, .string t] w fun e w' => e = .returned (.int .i64 (s.send x t).2) ∧ Pa w0 top b (s.send x t).1 w' ∧ Up top w w' := by
  obtain ⟨base, L, h1, hA⟩ := h.is
  refine (send_c hA x t).mono ?_
  rintro e w' ⟨hE, hA', hF⟩
  exact ⟨hE, ⟨⟨base, L, h1, hA'⟩, fr_below hF h.below h1, h.bt⟩, fr_up hF⟩
theorem gone_p (h : Pa w0 top b s w) (x n : Int) :
    Calls Try.prog 23 #[.pointer (some ⟨b, 0, none⟩), .int .i64 x, .int .i64 n] w fun e w' => (∃ A k, k = (s.gone x n).2.length ∧ e = .returned (.slice A k k) ∧ QRow w' w.heap.size 9 1 (.slice A k k) k (strs (s.gone x n).2)) ∧ Pa w0 top b (s.gone x n).1 w' ∧ Up top w w' := by
  obtain ⟨base, L, h1, hA⟩ := h.is
  refine (cgone_c hA x n).mono ?_
  rintro e w' ⟨hE, hA', hF⟩
  exact ⟨hE, ⟨⟨base, L, h1, hA'⟩, fr_below hF h.below h1, h.bt⟩, fr_up hF⟩
theorem raised_p (h : Pa w0 top b s w) : Calls Try.prog 13 #[.pointer (some ⟨b, 0, none⟩)] w fun e w' => (∃ A c, e = .returned (.slice A s.raised.length c) ∧ QRow w' w.heap.size 3 1 (.slice A s.raised.length c) s.raised.length (s.raised.map (Value.int .i64))) ∧ Ch nob w w' := by
  obtain ⟨base, L, h1, hA⟩ := h.is
  exact raised_c hA
theorem waits_p (h : Pa w0 top b s w) (x : Int) : Calls Try.prog 15 #[.pointer (some ⟨b, 0, none⟩), .int .i64 x] w fun e w' => e = .returned (.int .i64 (s.waits x)) ∧ w = w' := by
  obtain ⟨base, L, h1, hA⟩ := h.is
  exact waits_c hA x
theorem sends_p (h : Pa w0 top b s w) (x : Int) : Calls Try.prog 16 #[.pointer (some ⟨b, 0, none⟩), .int .i64 x] w fun e w' => e = .returned (.int .i64 (s.sends x)) ∧ w = w' := by
  obtain ⟨base, L, h1, hA⟩ := h.is
  exact sends_c hA x
theorem dropped_p (h : Pa w0 top b s w) : Calls Try.prog 17 #[.pointer (some ⟨b, 0, none⟩)] w fun e w' => e = .returned (.tuple #[.int .u64 s.came, .int .u64 s.sent]) ∧ Ch nob w w' := by
  obtain ⟨base, L, h1, hA⟩ := h.is
  exact dropped_c hA
end
theorem nil35 (w : World) (a : Option Addr) (n c n' c' : Nat) : (binOp .eql 35 (.slice a n c) (.slice none n' c')).run Try.prog w = .ok (.bool a.isNone) w := Lib.run_eql_slice_nil w 35 3 a n c n' c' Try.underlying35
def ClonePost (w : World) (on : List Int) (e : Ending) (w' : World) : Prop := ∃ A c, e = .returned (.slice A on.length c) ∧ QRow w' w.heap.size 3 1 (.slice A on.length c) on.length (on.map (Value.int .i64)) ∧ Ch nob w w'
set_option maxHeartbeats 2000000 in
theorem clone_c {w : World} {base : Nat} (A : Option Addr) (c : Nat) (on : List Int) (hq : QRow w base 3 1 (.slice A on.length c) on.length (on.map (Value.int .i64))) (h1 : 1 ≤ on.length) (h2 : on.length ≤ 1000000) :
    Calls Try.prog 36 #[.slice A on.length c] w (ClonePost w on) := by
  obtain ⟨g, o, rfl, _, hc⟩ := q_at hq (by omega)
  obtain ⟨i0, hi0, hz0, hz1, hz2⟩ := info_parts info3
  have hq0 : QRow (w.alloc (.cells #[] 3)) w.heap.size 3 1 (.slice (some ⟨w.heap.size, 0, none⟩) 0 0) 0 [] :=
    ⟨rfl, .inl ⟨rfl, _, rfl, fun a ha => by injection ha with ha; subst ha; exact ⟨Nat.le_refl _, _, Has.new w [] 3⟩⟩⟩
  obtain ⟨v', w1, hrun, hq', hg, hat⟩ := q_append (P := Try.prog) (w.alloc (.cells #[] 3)) w.heap.size 35 35 3 i0 (.int .i64 0) 1 8 Try.underlying35 hi0 hz0 hz1 hz2 rfl (by decide) _ _ _ hq0 ⟨g, o, none⟩ on.length c (on.map (Value.int .i64)) (by simp)
    (fun j u hu => by
      rw [add_at]
      have := (hc j u hu).1
      exact ((Below.refl w.heap.size w).alloc (Nat.le_refl _) (.cells #[] 3)).cell (World.block_lt_of_cell? _ _ this) |>.trans this)
    (fun u hu => by obtain ⟨x, _, rfl⟩ := List.mem_map.1 hu; rfl) (by omega) (by unfold maxLen; omega) (by omega) (by rw [alloc_size]; omega)
  rw [Nat.zero_add, List.nil_append] at hq'
  obtain ⟨A', c', rfl, _⟩ := q_slice hq'
  have hB : Ch nob w w1 := by
    refine ⟨hg.os, hg.tape, hg.output, Nat.le_trans (by rw [alloc_size]; omega) hg.size, fun k hk _ => ?_⟩
    rw [hg.block k (by rw [alloc_size]; omega) (fun e => by
      have : k = w.heap.size := by simpa [Value.ownBlock] using e
      omega)]
    exact ((Ch.refl nob w).alloc (.cells #[] 3)).block k hk id
  have HRUN := Lib.hid hrun
  have HQ := Lib.hid hq'
  have HB := Lib.hid hB
  have hnil := nil35
  clear hrun hq' hB hg hat hc hq hq0 hi0 hz0 hz1 hz2
  go_enter Try.func36, Try.ntmps36
  go_wp2_with (at_builtin; refine wpList_app rfl _ _ 35 rfl (.slice (some ⟨w.heap.size, 0, none⟩) 0 0) (.slice (some ⟨g, o, none⟩) on.length c) (.slice A' on.length c') _ w1 rfl rfl HRUN.out ?_)
  go_ret
  exact ⟨A', c', rfl, HQ.out, HB.out⟩
/-- The table becomes another one. -/
def St.table (s : St) (l : List Int) : St × Int := if l.length = 128 ∧ ∀ x ∈ l, s.is x then ({ s with tab := l }, 0) else (s, 2)
section
variable {w0 w w' : World} {base top b : Nat} {L : Lay} {s : St}
theorem At.setT (h : At w base top b L s) {l : List Int} {T : Value} (ht : QRow w base 3 1 T 128 (l.map (Value.int .i64))) (hl : l.length = 128) (hx : ∀ x ∈ l, s.is x) : At (w.setCell ⟨b, 1, none⟩ T) base top b { L with T := T } { s with tab := l } ∧ Fr base top w (w.setCell ⟨b, 1, none⟩ T) := by
  have key : ∀ (k : Nat) (c : Array Value) (U : TypeId), U ≠ 70 → w.heap[k]? = some (.cells c U (0, 0)) → (w.setCell ⟨b, 1, none⟩ T).heap[k]? = w.heap[k]? := fun k c U h1 hk => heap_set _ _ _ _ (typ_ne h.hb hk (Ne.symm h1))
  refine ⟨⟨h.hb.set 1 _, q_move h.hp fun k hk => ?_, q_move ht fun k hk => ?_, fun j qj hj => (h.q j qj hj).move fun k hk => ?_, h.dq, h.n1, h.n8, h.s1, h.s8, hl, hx, h.gb, h.gq, h.gp, by rw [size_set]; exact h.tz⟩, (Ch.refl _ _).set _ _ (.inl h.gb)⟩
  · obtain ⟨_, c, hc'⟩ := q_typed h.hp k hk
    exact key _ _ _ (by decide) hc'
  · obtain ⟨_, c, hc'⟩ := q_typed ht k hk
    exact key _ _ _ (by decide) hc'
  · have hJ := h.q j qj hj
    rcases hk with rfl | rfl | rfl
    · exact key _ _ _ (by decide) hJ.hq
    · exact key _ _ _ (by decide) hJ.hi
    · exact key _ _ _ (by decide) hJ.ho
theorem getD_mem' {l : List Int} {k : Nat} (hk : k < l.length) : l.getD k 0 ∈ l := by
  rw [List.getD_eq_getElem?_getD, List.getElem?_eq_getElem hk]
  exact List.getElem_mem hk
set_option maxHeartbeats 4000000 in
set_option maxRecDepth 100000 in
theorem table_c (h : At w base top b L s) (A : Option Addr) (c : Nat) (l : List Int) {bl : Nat} (hq : QRow w bl 3 1 (.slice A l.length c) l.length (l.map (Value.int .i64))) (hl : l.length ≤ 1000) :
    Calls Try.prog 21 #[.pointer (some ⟨b, 0, none⟩), .slice A l.length c] w fun e w' => e = .returned (.int .i64 (s.table l).2) ∧ (∃ L', At w' base top b L' (s.table l).1) ∧ Fr base top w w' := by
  obtain ⟨pb, po, cp, eP, c0, _⟩ := h.read
  have H := Lib.hid h
  have HQ := Lib.hid hq
  have hnil := nil68
  by_cases h1 : l.length = 128
  · obtain ⟨g, o, rfl, _, hc⟩ := q_at hq (by omega)
    have HC := Lib.hid hc
    have HL := Lib.hid h1
    rw [h1] at HQ ⊢
    clear h hq hc eP h1 hl
    go_enter Try.func21, Try.ntmps21
    go_wp2
    go_loopg [23] 128 (fun gk vi wr => ∃ k : Nat, k + gk = 128 ∧ vi = .int .i64 k ∧ Hid (∀ j, j < k → s.is (l.getD j 0)) ∧ wr = w)
    case atStart => exact ⟨0, by omega, rfl, Lib.hid fun j hj => absurd hj (Nat.not_lt_zero j), rfl⟩
    case round =>
      obtain ⟨k, hkg, rfl, HI, rfl⟩ := hrel
      by_cases hk : k < 128
      · have hkl : k < l.length := by rw [HL.out]; exact hk
        have ck : wr.cell? ⟨g, o + k, none⟩ = some (.int .i64 (l.getD k 0)) := (HC.out k _ (by
          rw [List.getElem?_map, List.getD_eq_getElem?_getD, List.getElem?_eq_getElem hkl]
          rfl)).1
        have hk3 : (k : Int) < 128 := by omega
        by_cases hx : s.is (l.getD k 0)
        · have HI' : Hid (∀ j, j < k + 1 → s.is (l.getD j 0)) := Lib.hid fun j hj => by
            by_cases e : j = k
            · subst e; exact hx
            · exact HI.out j (by omega)
          obtain ⟨hx0, hx1⟩ := hx
          generalize l.getD k 0 = x at *
          obtain ⟨i, rfl⟩ := Int.eq_ofNat_of_zero_le hx0
          have hi : i < s.qs.length := by omega
          clear hkl HI hx0 hx1
          go_wp2_with fail
          refine (of_ok H.out i hi).mono ?_
          rintro e w1 ⟨rfl, rfl⟩
          go_wp2
          go_roundg (128 - (k + 1))
          case measure => omega
          case rel => exact ⟨k + 1, by omega, by go_num, HI', rfl⟩
        · have HT := Lib.hid (show s.table l = (s, 2) from if_neg fun hh => hx (hh.2 _ (getD_mem' hkl)))
          have hb := is_bad hx
          generalize l.getD k 0 = x at *
          clear hkl hx
          go_wp2_with fail
          refine (of_bad H.out x hb).mono ?_
          rintro e w1 ⟨rfl, rfl⟩
          go_wp2
          go_ret
          rw [HT.out]
          exact ⟨rfl, ⟨L, H.out⟩, Fr.refl _ _ _⟩
      · obtain rfl : k = 128 := by omega
        have hall : ∀ x ∈ l, s.is x := fun x hx => by
          obtain ⟨j, hj, rfl⟩ := List.mem_iff_getElem.1 hx
          have := HI.out j (by rw [← HL.out]; exact hj)
          rw [List.getD_eq_getElem?_getD, List.getElem?_eq_getElem hj] at this
          exact this
        have HT := Lib.hid (show s.table l = ({ s with tab := l }, 0) from if_pos ⟨HL.out, hall⟩)
        have HA := Lib.hid hall
        clear hk hall
        go_wp2_with fail
        have HCL := clone_c (some ⟨g, o, none⟩) c l (by rw [HL.out]; exact HQ.out) (by rw [HL.out]; decide) (by rw [HL.out]; decide)
        rw [HL.out] at HCL
        refine HCL.mono ?_
        clear HCL
        rintro e w1 ⟨A', c', rfl, hq', hC⟩
        rw [HL.out] at hq' ⊢
        have h1 := H.out.still hC
        have hbz : base ≤ wr.heap.size := Nat.le_trans H.out.gb.1 (Nat.le_of_lt H.out.hb.lt)
        have cT : w1.cell? ⟨b, 1, none⟩ = some L.T := h1.hb.cell rfl
        have fT := h1.hb.free 1
        obtain ⟨a1, a2⟩ := h1.setT (q_lower hq' hbz) HL.out HA.out
        have A1 := Lib.hid a1
        have A2 := Lib.hid ((Fr.ofNone (base := base) (top := top) hC).trans a2)
        clear h1 a1 a2 hC hq' c0
        go_wp2
        go_ret
        rw [HT.out]
        exact ⟨rfl, ⟨_, A1.out⟩, A2.out⟩
  · have HT := Lib.hid (show s.table l = (s, 2) from if_neg fun hh => h1 hh.1)
    have hne : ((l.length : Int) == 128) = false := beq_eq_false_iff_ne.2 (by omega)
    have hne2 : ((l.length : Int) != 128) = true := by rw [bne, hne]; rfl
    clear h hq eP
    go_enter Try.func21, Try.ntmps21
    go_wp2
    go_ret
    rw [HT.out]
    exact ⟨rfl, ⟨L, H.out⟩, Fr.refl _ _ _⟩
end
section
variable {w0 w : World} {top b : Nat} {s : St}
theorem table_p (h : Pa w0 top b s w) (A : Option Addr) (c : Nat) (l : List Int) {bl : Nat} (hq : QRow w bl 3 1 (.slice A l.length c) l.length (l.map (Value.int .i64))) (hl : l.length ≤ 1000) :
    Calls Try.prog 21 #[.pointer (some ⟨b, 0, none⟩), .slice A l.length c] w fun e w' => e = .returned (.int .i64 (s.table l).2) ∧ Pa w0 top b (s.table l).1 w' ∧ Up top w w' := by
  obtain ⟨base, L, h1, hA⟩ := h.is
  refine (table_c hA A c l hq hl).mono ?_
  rintro e w' ⟨rfl, ⟨L', hA'⟩, hF⟩
  exact ⟨rfl, ⟨⟨base, L', h1, hA'⟩, fr_below hF h.below h1, h.bt⟩, fr_up hF⟩
end
theorem row_more2 {w wr : World} (hC : Ch nob w wr) (A : Option Addr) (c : Nat) (l : List Int) (hq : QRow wr w.heap.size 3 1 (.slice A l.length c) l.length (l.map (Value.int .i64))) (x : Int) (hl : l.length ≤ 1000000) :
    ∃ A' c' w1, (Builtin.append_ #[35, 35] 35 #[.slice A l.length c, .slice (some ⟨wr.heap.size, 0, none⟩) 1 1]).run Try.prog (wr.alloc (.cells #[.int .i64 x] 3)) = .ok (.slice A' (l ++ [x]).length c') w1 ∧
      QRow w1 w.heap.size 3 1 (.slice A' (l ++ [x]).length c') (l ++ [x]).length ((l ++ [x]).map (Value.int .i64)) ∧ Ch nob w w1 ∧ Keeps (fun t => t ≠ 3) wr w1 := by
  obtain ⟨i0, hi0, hz0, hz1, hz2⟩ := info_parts info3
  have hq1 : QRow (wr.alloc (.cells #[.int .i64 x] 3)) w.heap.size 3 1 (.slice A l.length c) l.length (l.map (Value.int .i64)) := q_move hq fun k hk => by
    have := q_lt hq k hk
    show (wr.heap.push _)[k]? = _
    rw [Array.getElem?_push]; split <;> first | omega | rfl
  obtain ⟨v', w1, hrun, hq', hg, hat⟩ := q_append (P := Try.prog) (wr.alloc (.cells #[.int .i64 x] 3)) w.heap.size 35 35 3 i0 (.int .i64 0) 1 8 Try.underlying35 hi0 hz0 hz1 hz2 rfl (by decide) _ _ _ hq1 ⟨wr.heap.size, 0, none⟩ 1 1 [.int .i64 x] rfl
    (fun j u hu => by
      match j, hu with
      | 0, hu =>
        simp only [List.getElem?_cons_zero, Option.some.injEq] at hu
        subst hu
        rw [add_at]
        exact (Has.new wr [.int .i64 x] 3).cell rfl
      | j + 1, hu => simp at hu)
    (fun u hu => by simp at hu; subst hu; rfl) (by decide) (by unfold maxLen; omega) (by omega) (by rw [alloc_size]; have := hC.size; omega)
  obtain ⟨A', c', rfl, _⟩ := q_slice hq'
  have hlen : (l ++ [x]).length = l.length + 1 := by simp
  rw [hlen, List.map_append]
  refine ⟨A', c', w1, hrun, hq', ?_, ((Keeps.ofNone ((Ch.refl nob wr).alloc _)).grown hg fun k e => by
    obtain ⟨_, cc, hcc⟩ := q_typed hq1 k e
    exact ⟨cc, 3, hcc, by simp⟩)⟩
  refine ⟨hg.os.trans hC.os, hg.tape.trans hC.tape, hg.output.trans hC.output, Nat.le_trans (Nat.le_trans hC.size (by rw [alloc_size]; omega)) hg.size, fun k hk _ => ?_⟩
  rw [hg.block k (by rw [alloc_size]; have := hC.size; omega) (fun e => by have := (q_typed hq1 k e.symm).1; omega)]
  have := (hC.alloc (.cells #[.int .i64 x] 3)).block k hk id
  exact this
/-- A step's cells. -/
def stp (x : Op.Stp) : List Value := [.int .i64 x.d, .int .u32 x.hash, .string x.s, .int .i64 x.q, .int .i64 x.n, .bool x.odd]
def tabl (x : Op.Stp) : List Int := if x.odd then List.replicate 127 x.q else List.replicate 128 x.q
theorem tabl_len (x : Op.Stp) : (tabl x).length ≤ 1000 := by unfold tabl; split <;> simp
set_option maxHeartbeats 4000000 in
set_option maxRecDepth 100000 in
theorem mk_c (x : Op.Stp) (w : World) : Calls Try.prog 30 #[.agg (stp x).toArray] w fun e w' => (∃ A c, e = .returned (.slice A (tabl x).length c) ∧ QRow w' w.heap.size 3 1 (.slice A (tabl x).length c) (tabl x).length ((tabl x).map (Value.int .i64))) ∧ Ch nob w w' := by
  obtain ⟨d, hash, st, q, n, odd⟩ := x
  have HC := Lib.hid ((Ch.refl nob w).alloc (.cells (stp ⟨d, hash, st, q, n, odd⟩).toArray 34))
  have HX := Lib.hid (Has.new w (stp ⟨d, hash, st, q, n, odd⟩) 34)
  obtain ⟨W, hW⟩ : ∃ W, W = w.alloc (.cells (stp ⟨d, hash, st, q, n, odd⟩).toArray 34) := ⟨_, rfl⟩
  obtain ⟨kx, hkx⟩ : ∃ kx, kx = w.heap.size := ⟨_, rfl⟩
  rw [← hW] at HC
  rw [← hW, ← hkx] at HX
  have hst : (stp ⟨d, hash, st, q, n, odd⟩).toArray = #[.int .i64 d, .int .u32 hash, .string st, .int .i64 q, .int .i64 n, .bool odd] := rfl
  rw [hst] at hW ⊢
  have HKX := Lib.hid hkx
  go_enter Try.func30, Try.ntmps30
  go_wp2
  rw [← hW, ← hkx]
  clear hW hkx hst
  go_loopg [3, 4] 128 (fun g vl vi wr => ∃ (k : Nat) (A : Option Addr) (c : Nat), k + g = 128 ∧ vi = .int .i64 k ∧ vl = .slice A k c ∧ Hid (QRow wr w.heap.size 3 1 (.slice A k c) k ((List.replicate k q).map (Value.int .i64))) ∧ Hid (Ch nob w wr) ∧ Hid (Has wr kx (stp ⟨d, hash, st, q, n, odd⟩) 34))
  case atStart => exact ⟨0, none, 0, by omega, rfl, rfl, Lib.hid (q_none _ _ _ _), HC, HX⟩
  case round =>
    clear HC HX
    obtain ⟨k, A, c, hkg, rfl, rfl, HQ, HC, HX⟩ := hrel
    by_cases hk : k < 128
    · have hrep : (List.replicate k q).length = k := List.length_replicate ..
      obtain ⟨A', c', w1, hrun, hq', hC', hK'⟩ := row_more2 HC.out A c (List.replicate k q) (by rw [hrep]; exact HQ.out) q (by rw [hrep]; omega)
      have hrep2 : (List.replicate k q ++ [q]).length = k + 1 := by rw [List.length_append, hrep]; rfl
      rw [hrep, hrep2] at hrun
      rw [hrep2, show List.replicate k q ++ [q] = List.replicate (k + 1) q by rw [List.replicate_succ']] at hq'
      have R := Lib.hid hrun
      have HQ' := Lib.hid hq'
      have HC' := Lib.hid hC'
      have c3 : wr.cell? ⟨kx, 3, none⟩ = some (.int .i64 q) := HX.out.cell rfl
      have HX' := Lib.hid (hK'.has (by decide) HX.out)
      clear hrun hq' hC' hK' HQ HC HX hrep hrep2
      go_wp2_with (at_builtin; refine wpList_app rfl _ _ 35 rfl (.slice A k c) (.slice (some ⟨wr.heap.size, 0, none⟩) 1 1) (.slice A' (k + 1) c') _ w1 rfl rfl R.out ?_)
      go_roundg (128 - (k + 1))
      case measure => omega
      case rel => exact ⟨k + 1, A', c', by omega, by go_num, rfl, HQ', HC', HX'⟩
    · obtain rfl : k = 128 := by omega
      have c5 : wr.cell? ⟨kx, 5, none⟩ = some (.bool odd) := HX.out.cell rfl
      clear hk
      cases odd with
      | false =>
        go_wp2
        go_ret
        refine ⟨⟨A, c, ?_, ?_⟩, HC.out⟩
        · show _ = Ending.returned (.slice A (tabl ⟨d, hash, st, q, n, false⟩).length c)
          rw [show (tabl ⟨d, hash, st, q, n, false⟩).length = 128 from List.length_replicate ..]
          rfl
        · rw [show (tabl ⟨d, hash, st, q, n, false⟩).length = 128 from List.length_replicate ..]
          exact HQ.out
      | true =>
        obtain ⟨i0, hi0, hz0, hz1, hz2⟩ := info_parts info3
        have hcut0 := cut_from (P := Try.prog) 35 3 .i64 Try.underlying35 hi0 1 hz1 A 128 c 1 (by decide) (by decide)
        obtain ⟨A', hA'⟩ : ∃ A', A' = (if c = 1 then A else A.map (·.add (1 * 1))) := ⟨_, rfl⟩
        have hcut : ∀ W : World, (Instr.slice 35 (.slice A 128 c) (some (.int .i64 1)) none none).run Try.prog W = .ok (.slice A' 127 (c - 1)) W := fun W => by rw [hcut0 W, hA']; rfl
        have HA := Lib.hid hA'
        clear hcut0 hA' hi0 hz0 hz1 hz2
        go_wp2
        go_ret
        refine ⟨⟨A', c - 1, ?_, ?_⟩, HC.out⟩
        · show _ = Ending.returned (.slice A' (tabl ⟨d, hash, st, q, n, true⟩).length (c - 1))
          rw [show (tabl ⟨d, hash, st, q, n, true⟩).length = 127 from List.length_replicate ..]
          rfl
        · rw [show (tabl ⟨d, hash, st, q, n, true⟩).length = 127 from List.length_replicate ..]
          have := q_drop (k := 1) HQ.out (by decide)
          rw [HA.out]
          exact this
end Go.Proofs.Ytbpinkelcbcpjaa.Ni
