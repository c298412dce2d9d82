import Derived.Test.YtbpinkelcbcpjaaRr
namespace Go.Proofs.Ytbpinkelcbcpjaa.Ni
open Go.RowKit Blk Go.Proofs.YtbpinkelcbcpjaaW.PrintWords
set_option linter.unusedVariables false

def Rf.put (r : Rf) (l : List Int) : Rf × Int := if l.length = 128 ∧ ∀ x ∈ l, 0 ≤ x ∧ x < r.ins.length then ({ r with tab := l }, 0) else (r, 2)
def TT : TypeId → Prop := fun t => t ≠ 44
section
variable {w w' : World} {base b : Nat} {g : Rl} {r : Rf}
set_option maxHeartbeats 4000000 in
set_option maxRecDepth 100000 in
theorem r_put (h : RAt w base b g r) (A : Option Addr) (c : Nat) (l : List Int) {bl : Nat} (hq : QRow w bl 3 1 (.slice A l.length c) l.length (l.map (Value.int .i64))) (hl : l.length ≤ 1000) (hbase : base ≤ w.heap.size) :
    Calls Try.prog 31 #[.pointer (some ⟨b, 0, none⟩), .slice A l.length c] w fun e w' => e = .returned (.int .i64 (r.put l).2) ∧ Re w' base b (r.put l).1 ∧ Fk base TT w w' := by
  have H := Lib.hid h
  have HQ := Lib.hid hq
  by_cases h1 : l.length = 128
  · obtain ⟨tg, tq, rfl, _, hc⟩ := q_at hq (by omega)
    have HC := Lib.hid hc
    have HL := Lib.hid h1
    rw [h1] at HQ ⊢
    clear h hq hc h1 hl
    go_enter Try.func31, Try.ntmps31
    go_wp2
    go_loopg [5] 128 (fun gk vi wr => ∃ k : Nat, k + gk = 128 ∧ vi = .int .i64 k ∧ Hid (∀ j, j < k → 0 ≤ l.getD j 0 ∧ l.getD j 0 < r.ins.length) ∧ wr = w)
    case atStart => exact ⟨0, by omega, rfl, Lib.hid fun j hj => absurd hj (Nat.not_lt_zero j), rfl⟩
    case round =>
      obtain ⟨k, hkg, rfl, HI, rfl⟩ := hrel
      by_cases hk : k < 128
      · have hkl : k < l.length := by rw [HL.out]; exact hk
        have ck : wr.cell? ⟨tg, tq + k, none⟩ = some (.int .i64 (l.getD k 0)) := (HC.out k _ (by
          rw [List.getElem?_map, List.getD_eq_getElem?_getD, List.getElem?_eq_getElem hkl]
          rfl)).1
        have hk3 : (k : Int) < 128 := by omega
        by_cases hx : 0 ≤ l.getD k 0 ∧ l.getD k 0 < r.ins.length
        · have HI' : Hid (∀ j, j < k + 1 → 0 ≤ l.getD j 0 ∧ l.getD j 0 < r.ins.length) := Lib.hid fun j hj => by
            by_cases e : j = k
            · subst e; exact hx
            · exact HI.out j (by omega)
          have HD := Lib.hid (show decide (0 ≤ l.getD k 0 ∧ l.getD k 0 < r.ins.length) = true from decide_eq_true hx)
          generalize l.getD k 0 = x at *
          clear hkl HI hx
          go_wp2_with fail
          refine (r_is H.out x).mono ?_
          rintro e w1 ⟨rfl, rfl⟩
          rw [HD.out]
          go_wp2
          go_roundg (128 - (k + 1))
          case measure => omega
          case rel => exact ⟨k + 1, by omega, by go_num, HI', rfl⟩
        · have HT := Lib.hid (show r.put l = (r, 2) from if_neg fun hh => hx (hh.2 _ (getD_mem' hkl)))
          have HD := Lib.hid (show decide (0 ≤ l.getD k 0 ∧ l.getD k 0 < r.ins.length) = false from decide_eq_false hx)
          generalize l.getD k 0 = x at *
          clear hkl hx
          go_wp2_with fail
          refine (r_is H.out x).mono ?_
          rintro e w1 ⟨rfl, rfl⟩
          rw [HD.out]
          go_wp2
          go_ret
          rw [HT.out]
          exact ⟨rfl, ⟨g, H.out⟩, Fk.refl _ _ _⟩
      · obtain rfl : k = 128 := by omega
        have hall : ∀ x ∈ l, 0 ≤ x ∧ x < r.ins.length := fun x hx => by
          obtain ⟨j, hj, rfl⟩ := List.mem_iff_getElem.1 hx
          have := HI.out j (by rw [← HL.out]; exact hj)
          rw [List.getD_eq_getElem?_getD, List.getElem?_eq_getElem hj] at this
          exact this
        have HT := Lib.hid (show r.put l = ({ r with tab := l }, 0) from if_pos ⟨HL.out, hall⟩)
        clear hk hall HI
        obtain ⟨i0, hi0, hz0, hz1, hz2⟩ := info_parts info3
        obtain ⟨v', w1, hrun, hq', hg, hat⟩ := q_append (P := Try.prog) wr wr.heap.size 35 35 3 i0 (.int .i64 0) 1 8 Try.underlying35 hi0 hz0 hz1 hz2 rfl (by decide) _ _ _ (q_none wr wr.heap.size 3 1) ⟨tg, tq, none⟩ 128 c (l.map (Value.int .i64)) (by rw [List.length_map, HL.out])
          (fun j u hu => by rw [add_at]; exact (HC.out j u hu).1) (fun u hu => by obtain ⟨x, _, rfl⟩ := List.mem_map.1 hu; rfl) (by decide) (by decide) (by decide) (Nat.le_refl _)
        rw [Nat.zero_add, List.nil_append] at hq'
        obtain ⟨A', c', rfl, _⟩ := q_slice hq'
        have hn : Ch nob wr w1 := ⟨hg.os, hg.tape, hg.output, hg.size, fun k hk _ => hg.block k hk (by simp [Value.ownBlock])⟩
        have h1 := H.out.still hn
        have c1 : w1.cell? ⟨b, 1, none⟩ = some g.T := h1.hb.cell rfl
        have f1 := h1.hb.free 1
        have A1 := Lib.hid (h1.setTab (.slice A' 128 c') l (q_lower hq' hbase))
        have A2 := Lib.hid ((Fk.ofNone (T := TT) hn hbase).set ⟨b, 1, none⟩ (.slice A' 128 c') h1.hb h1.gb (fun ht => ht rfl))
        have R := Lib.hid hrun
        clear h1 hn hrun hq' hg hat hi0 hz0 hz1 hz2
        go_wp2_with (at_builtin; refine wpList_app rfl _ _ 35 rfl (.slice none 0 0) (.slice (some ⟨tg, tq, none⟩) 128 c) (.slice A' 128 c') _ w1 rfl rfl R.out ?_)
        go_ret
        rw [HT.out]
        exact ⟨rfl, ⟨_, A1.out⟩, A2.out⟩
  · have HT := Lib.hid (show r.put l = (r, 2) from if_neg fun hh => h1 hh.1)
    have hne : ((l.length : Int) == 128) = false := beq_eq_false_iff_ne.2 (by omega)
    have hne2 : ((l.length : Int) != 128) = true := by rw [bne, hne]; rfl
    clear h hq
    go_enter Try.func31, Try.ntmps31
    go_wp2
    go_ret
    rw [HT.out]
    exact ⟨rfl, ⟨g, H.out⟩, Fk.refl _ _ _⟩
end
end Go.Proofs.Ytbpinkelcbcpjaa.Ni
