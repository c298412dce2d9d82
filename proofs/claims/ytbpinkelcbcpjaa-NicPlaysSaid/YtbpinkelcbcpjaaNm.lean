import Derived.Test.YtbpinkelcbcpjaaNl
namespace Go.Proofs.Ytbpinkelcbcpjaa.Ni
open Go.RowKit Blk Go.Proofs.YtbpinkelcbcpjaaW.PrintWords
set_option linter.unusedVariables false

def Qu.up (q : Qu) : Bool := q.armed && decide (0 < q.an)
/-- Those whose interrupt is raised, of the first k. -/
def St.rai (s : St) : Nat → List Int
  | 0 => []
  | k + 1 => if (s.qu k).up then s.rai k ++ [(k : Int)] else s.rai k
theorem rai_len (s : St) (k : Nat) : (s.rai k).length ≤ k := by
  induction k with
  | zero => exact Nat.le_refl _
  | succ k ih =>
    unfold St.rai
    split
    · rw [List.length_append]
      show (s.rai k).length + 1 ≤ k + 1
      omega
    · omega
def St.raised (s : St) : List Int := s.rai s.qs.length
theorem raised_nil (w : World) : Calls Try.prog 13 #[.pointer none] w fun e w' => e = .returned (.slice none 0 0) ∧ w = w' := by
  go_enter Try.func13, Try.ntmps13
  go_wp2
  go_ret
  exact ⟨rfl, rfl⟩
/-- A row of one's own, one more. -/
theorem row_more {w wr : World} (hC : Ch nob w wr) (A : Option Addr) (c : Nat) (l : List Int) (hq : QRow wr w.heap.size 3 1 (.slice A l.length c) l.length (l.map (Value.int .i64))) (x : Int) (hl : l.length ≤ 1000000) :
    ∃ A' c' w1, (Builtin.append_ #[35, 35] 35 #[.slice A l.length c, .slice (some ⟨wr.heap.size, 0, none⟩) 1 1]).run Try.prog (wr.alloc (.cells #[.int .i64 x] 3)) = .ok (.slice A' (l ++ [x]).length c') w1 ∧
      QRow w1 w.heap.size 3 1 (.slice A' (l ++ [x]).length c') (l ++ [x]).length ((l ++ [x]).map (Value.int .i64)) ∧ Ch nob w w1 := by
  obtain ⟨i0, hi0, hz0, hz1, hz2⟩ := info_parts info3
  have hq1 : QRow (wr.alloc (.cells #[.int .i64 x] 3)) w.heap.size 3 1 (.slice A l.length c) l.length (l.map (Value.int .i64)) := q_move hq fun k hk => by
    have := q_lt hq k hk
    show (wr.heap.push _)[k]? = _
    rw [Array.getElem?_push]; split <;> first | omega | rfl
  obtain ⟨v', w1, hrun, hq', hg, hat⟩ := q_append (P := Try.prog) (wr.alloc (.cells #[.int .i64 x] 3)) w.heap.size 35 35 3 i0 (.int .i64 0) 1 8 Try.underlying35 hi0 hz0 hz1 hz2 rfl (by decide) _ _ _ hq1 ⟨wr.heap.size, 0, none⟩ 1 1 [.int .i64 x] rfl
    (fun j u hu => by
      match j, hu with
      | 0, hu =>
        simp only [List.getElem?_cons_zero, Option.some.injEq] at hu
        subst hu
        rw [add_at]
        exact (Has.new wr [.int .i64 x] 3).cell rfl
      | j + 1, hu => simp at hu)
    (fun u hu => by simp at hu; subst hu; rfl) (by decide) (by unfold maxLen; omega) (by omega) (by rw [alloc_size]; have := hC.size; omega)
  obtain ⟨A', c', rfl, _⟩ := q_slice hq'
  have hlen : (l ++ [x]).length = l.length + 1 := by simp
  rw [hlen, List.map_append]
  refine ⟨A', c', w1, hrun, hq', ?_⟩
  refine ⟨hg.os.trans hC.os, hg.tape.trans hC.tape, hg.output.trans hC.output, Nat.le_trans (Nat.le_trans hC.size (by rw [alloc_size]; omega)) hg.size, fun k hk _ => ?_⟩
  rw [hg.block k (by rw [alloc_size]; have := hC.size; omega) (fun e => by have := (q_typed hq1 k e.symm).1; omega)]
  have := (hC.alloc (.cells #[.int .i64 x] 3)).block k hk id
  exact this
section
variable {w : World} {base top b : Nat} {L : Lay} {s : St}
set_option maxHeartbeats 4000000 in
set_option maxRecDepth 100000 in
theorem raised_c (h : At w base top b L s) : Calls Try.prog 13 #[.pointer (some ⟨b, 0, none⟩)] w fun e w' => (∃ A c, e = .returned (.slice A s.raised.length c) ∧ QRow w' w.heap.size 3 1 (.slice A s.raised.length c) s.raised.length (s.raised.map (Value.int .i64))) ∧ Ch nob w w' := by
  obtain ⟨pb, po, cp, eP, c0, _⟩ := h.read
  have HP := Lib.hid eP
  have H := Lib.hid h
  obtain ⟨n, hn⟩ : ∃ n, n = s.qs.length := ⟨_, rfl⟩
  have hn8 : n ≤ 8 := by rw [hn]; exact h.n8
  have hnn : n ≤ 9223372036854775807 := by omega
  unfold St.raised
  rw [← hn] at c0 ⊢
  have HN := Lib.hid hn
  clear h hn eP
  go_enter Try.func13, Try.ntmps13
  go_wp2
  go_loopg [2, 12] n (fun g vl vi wr => ∃ (k : Nat) (A : Option Addr) (c : Nat), k + g = n ∧ vi = .int .i64 k ∧ vl = .slice A (s.rai k).length c ∧ Hid (QRow wr w.heap.size 3 1 (.slice A (s.rai k).length c) (s.rai k).length ((s.rai k).map (Value.int .i64))) ∧ Hid (Ch nob w wr))
  case atStart => exact ⟨0, none, 0, by omega, rfl, rfl, Lib.hid (q_none _ _ _ _), Lib.hid (Ch.refl _ _)⟩
  case round =>
    obtain ⟨k, A, c, hkg, rfl, rfl, hQ, hC⟩ := hrel
    by_cases hk : k < n
    · have hr := H.out.still hC.out
      have ep := (hr.rd HP.out).2 k (by rw [← HN.out]; exact hk)
      obtain ⟨q, hq, hQu⟩ := hr.qu k (by rw [← HN.out]; exact hk)
      have c6 := hQu.cells.2.2.2.2.2.2
      have c2 := hQu.cells.2.2.1
      have hup : s.qu k = q := qu_of hq
      have hlen := rai_len s k
      clear hr hq hQu
      by_cases ha : q.armed = true
      · rw [ha] at c6
        by_cases hp : 0 < q.an
        · have hS : s.rai (k + 1) = s.rai k ++ [(k : Int)] := by
            show (if (s.qu k).up then _ else _) = _
            rw [if_pos (by rw [hup]; unfold Qu.up; rw [ha, decide_eq_true hp]; rfl)]
          obtain ⟨A', c', w1, hrun, hQ', hC'⟩ := row_more hC.out A c (s.rai k) hQ.out k (by omega)
          rw [← hS] at hrun hQ'
          have R := Lib.hid hrun
          have HQ' := Lib.hid hQ'
          have HC' := Lib.hid hC'
          clear hrun hQ' hC' hQ hC hS hup
          generalize (s.rai k).length = m at *
          have hp' : (0 : Int) < (q.an : Int) := by omega
          go_wp2_with (at_builtin; refine wpList_app rfl _ _ 35 rfl (.slice A m c) (.slice (some ⟨wr.heap.size, 0, none⟩) 1 1) (.slice A' (s.rai (k + 1)).length c') _ w1 rfl rfl R.out ?_)
          go_roundg (n - (k + 1))
          case measure => omega
          case rel => exact ⟨k + 1, A', c', by omega, by go_num, rfl, HQ', HC'⟩
        · have hS : s.rai (k + 1) = s.rai k := by
            show (if (s.qu k).up then _ else _) = _
            rw [if_neg (by rw [hup]; unfold Qu.up; rw [decide_eq_false hp, Bool.and_false]; exact Bool.false_ne_true)]
          have HS := Lib.hid hS
          have hp0 : q.an = 0 := by omega
          rw [hp0] at c2
          clear hS hup hp
          go_wp2
          go_roundg (n - (k + 1))
          case measure => omega
          case rel => exact ⟨k + 1, A, c, by omega, by go_num, by rw [HS.out], by rw [HS.out]; exact hQ, hC⟩
      · have ha' : q.armed = false := by cases h : q.armed <;> simp_all
        rw [ha'] at c6
        have hS : s.rai (k + 1) = s.rai k := by
          show (if (s.qu k).up then _ else _) = _
          rw [if_neg (by rw [hup]; unfold Qu.up; rw [ha', Bool.false_and]; exact Bool.false_ne_true)]
        have HS := Lib.hid hS
        clear hS hup ha
        go_wp2
        go_roundg (n - (k + 1))
        case measure => omega
        case rel => exact ⟨k + 1, A, c, by omega, by go_num, by rw [HS.out], by rw [HS.out]; exact hQ, hC⟩
    · obtain rfl : k = n := by omega
      go_wp2
      go_ret
      exact ⟨⟨A, c, rfl, hQ.out⟩, hC.out⟩
end
end Go.Proofs.Ytbpinkelcbcpjaa.Ni
