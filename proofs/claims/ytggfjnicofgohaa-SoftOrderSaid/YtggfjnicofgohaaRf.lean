import Derived.Test.YtggfjnicofgohaaRe
namespace Go.Proofs.Ytggfjnicofgohaa.Sf
open Go.RowKit Blk Go.Proofs.YtggfjnicofgohaaW.PrintWords
set_option linter.unusedVariables false

theorem grow1 {w : World} {base n bytes : Nat} {t e : TypeId} {z : Value} {A : Option Addr} {c : Nat} {xs : List Value} (ht : Try.prog.underlying t = some (.slice e)) (hinfo : (Try.prog.info? e).map (fun i => (i.zero, i.size, i.bytes)) = some (some z, 1, bytes)) (hz : z.cells.size = 1)
    (hq : QRow w base e 1 (.slice A n c) n xs) (u : Value) (hu : u.oneCell' = true) (hn : n ≤ 1000) (hbt : bytes ≤ 1000) (hbase : base ≤ w.heap.size) :
    ∃ A' c' w1, (Builtin.append_ #[t, t] t #[.slice A n c, .slice (some ⟨w.heap.size, 0, none⟩) 1 1]).run Try.prog (w.alloc (.cells #[u] e)) = .ok (.slice A' (n + 1) c') w1 ∧ QRow w1 base e 1 (.slice A' (n + 1) c') (n + 1) (xs ++ [u]) ∧ Keeps (· ≠ e) w w1 ∧ Below base w w1 := by
  obtain ⟨i0, hi, hz0, hz1, hz2⟩ := info_parts hinfo
  have hk0 : Keeps (fun _ => True) w (w.alloc (.cells #[u] e)) := (Keeps.refl _ w).alloc _
  have hq1 := hk0.q trivial hq
  have hmul : (n + 1) * bytes ≤ 1001 * 1000 := Nat.mul_le_mul (by omega) hbt
  obtain ⟨v', w1, hrun, hq', hg, hat⟩ := q_append (P := Try.prog) (w.alloc (.cells #[u] e)) base t t e i0 z 1 bytes ht hi hz0 hz1 hz2 hz (by decide) _ _ _ hq1 ⟨w.heap.size, 0, none⟩ 1 1 [u] rfl
    (fun j v hv => by
      match j, hv with
      | 0, hv =>
        simp only [List.getElem?_cons_zero, Option.some.injEq] at hv
        subst hv
        rw [add_at]
        exact (Has.new w [u] e).cell rfl
      | j + 1, hv => simp at hv)
    (fun v hv => by simp at hv; subst hv; exact hu) (by decide) (by unfold maxLen; omega) (by omega) (by rw [alloc_size]; omega)
  obtain ⟨A', c', rfl, _⟩ := q_slice hq'
  refine ⟨A', c', w1, hrun, hq', ?_, ?_⟩
  · exact ((Keeps.refl _ w).alloc _).grown hg fun j hj => by
      obtain ⟨_, d, hd⟩ := q_typed hq1 j hj
      exact ⟨d, e, hd, by simp⟩
  · exact ((Below.refl base w).alloc hbase _).grown hg (by rw [alloc_size]; omega) (fun j hj => (q_typed hq1 j hj).1)
/-- The reference's object, while it is made. -/
structure Rg (w : World) (base b : Nat) (most : Int) (k : Nat) (AL : Option Addr) (cL : Nat) (AS : Option Addr) (cS : Nat) (AO : Option Addr) (cO : Nat) : Prop where
  hb : Has w b (rc most (.slice AL k cL) (.slice AS k cS) (.slice AO k cO) z256) 56
  hL : QRow w base 52 1 (.slice AL k cL) k (List.replicate k (.slice none 0 0))
  hS : QRow w base 32 1 (.slice AS k cS) k (List.replicate k (.int .u64 0))
  hO : QRow w base 3 1 (.slice AO k cO) k (((List.range k).map (fun (i : Nat) => (i : Int))).map (Value.int .i64))
def rfresh (n : Nat) (most : Int) : Rf := ⟨n, most, List.replicate n [], List.replicate n 0, (List.range n).map (fun (i : Nat) => (i : Int)), z256⟩
theorem q_nil (w : World) (base : Nat) (e : TypeId) : QRow w base e 1 (.slice none 0 0) 0 [] := ⟨rfl, .inl ⟨rfl, none, rfl, fun a h => by cases h⟩⟩
theorem rg_done {w : World} {base b n : Nat} {most : Int} {AL : Option Addr} {cL : Nat} {AS : Option Addr} {cS : Nat} {AO : Option Addr} {cO : Nat} (h : Rg w base b most n AL cL AS cS AO cO) (hn : 1 ≤ n) (hb : base ≤ b) :
    ∃ r ro rk l lo lk rv O, RAt w base b r ro rk l lo lk rv O (rfresh n most) := by
  obtain ⟨r, ro, rfl, _, _⟩ := q_at h.hL (by omega)
  obtain ⟨l, lo, rfl, _, _⟩ := q_at h.hS (by omega)
  have e1 : (rfresh n most).on.length = n := by simp [rfresh]
  refine ⟨r, ro, cL, l, lo, cS, List.replicate n (.slice none 0 0), _, hn, h.hb, h.hL, ?_, ?_, by simp [rfresh], ?_, ?_, hb, z256_len⟩
  · rw [show (rfresh n most).lost.map (Value.int .u64) = List.replicate n (.int .u64 0) from rep_map n]
    exact h.hS
  · rw [e1]; exact h.hO
  · intro i v row hv hrow
    have h1 := List.eq_of_mem_replicate (List.mem_of_getElem? hv)
    have h2 : row = [] := List.eq_of_mem_replicate (List.mem_of_getElem? hrow)
    subst h1 h2
    exact ⟨rfl, .inl ⟨rfl, none, rfl, fun a h => by cases h⟩⟩
  · intro i j v v' _ hv hv'
    have h1 := List.eq_of_mem_replicate (List.mem_of_getElem? hv)
    subst h1
    intro k hk
    cases hk
def Z56 : Array Value := (rc 0 (.slice none 0 0) (.slice none 0 0) (.slice none 0 0) z256).toArray
theorem zero56 (W : World) : (zeroValue 56).run Try.prog W = .ok (.agg Z56) W := by kernel_rfl
theorem Z56_ne : (Z56 = #[]) = False := by simp [Z56, rc]
theorem Z56_size : Z56.size = 260 := by kernel_rfl
theorem built56 (most : Int) : Z56.setIfInBounds 0 (.int .i64 most) = (rc most (.slice none 0 0) (.slice none 0 0) (.slice none 0 0) z256).toArray := by
  apply Array.ext'
  rw [Array.toList_setIfInBounds]
  rfl
/-- One core more. -/
theorem rg_step {w : World} {base b k : Nat} {most : Int} {AL : Option Addr} {cL : Nat} {AS : Option Addr} {cS : Nat} {AO : Option Addr} {cO : Nat} (h : Rg w base b most k AL cL AS cS AO cO) (hk : k < 8) (hbase : base ≤ w.heap.size) (hbb : base ≤ b) :
    ∃ A1 c1 w1 A2 c2 w2 A3 c3 w3,
      ((Builtin.append_ #[53, 53] 53 #[.slice AL k cL, .slice (some ⟨w.heap.size, 0, none⟩) 1 1]).run Try.prog (w.alloc (.cells #[.slice none 0 0] 52)) = .ok (.slice A1 (k + 1) c1) w1 ∧ w1.cell? ⟨b, 1, none⟩ = some (.slice AL k cL) ∧ w1.frozen? ⟨b, 1, none⟩ = false) ∧
      ((w1.setCell ⟨b, 1, none⟩ (.slice A1 (k + 1) c1)).cell? ⟨b, 2, none⟩ = some (.slice AS k cS) ∧
        (Builtin.append_ #[39, 39] 39 #[.slice AS k cS, .slice (some ⟨w1.heap.size, 0, none⟩) 1 1]).run Try.prog ((w1.setCell ⟨b, 1, none⟩ (.slice A1 (k + 1) c1)).alloc (.cells #[.int .u64 0] 32)) = .ok (.slice A2 (k + 1) c2) w2 ∧ w2.cell? ⟨b, 2, none⟩ = some (.slice AS k cS) ∧ w2.frozen? ⟨b, 2, none⟩ = false) ∧
      ((w2.setCell ⟨b, 2, none⟩ (.slice A2 (k + 1) c2)).cell? ⟨b, 3, none⟩ = some (.slice AO k cO) ∧
        (Builtin.append_ #[33, 33] 33 #[.slice AO k cO, .slice (some ⟨w2.heap.size, 0, none⟩) 1 1]).run Try.prog ((w2.setCell ⟨b, 2, none⟩ (.slice A2 (k + 1) c2)).alloc (.cells #[.int .i64 k] 3)) = .ok (.slice A3 (k + 1) c3) w3 ∧ w3.cell? ⟨b, 3, none⟩ = some (.slice AO k cO) ∧ w3.frozen? ⟨b, 3, none⟩ = false) ∧
      Rg (w3.setCell ⟨b, 3, none⟩ (.slice A3 (k + 1) c3)) base b most (k + 1) A1 c1 A2 c2 A3 c3 ∧ Below base w (w3.setCell ⟨b, 3, none⟩ (.slice A3 (k + 1) c3)) := by
  obtain ⟨A1, c1, w1, run1, q1, k1, B1⟩ := grow1 Try.underlying53 info52 rfl h.hL (.slice none 0 0) rfl (by omega) (by omega) hbase
  have hb1 := k1.has (by decide) h.hb
  have s1 : Keeps (· ≠ 56) w1 (w1.setCell ⟨b, 1, none⟩ (.slice A1 (k + 1) c1)) := (Keeps.refl _ _).set _ _ hb1 (by simp)
  have hbW1 : Has (w1.setCell ⟨b, 1, none⟩ (.slice A1 (k + 1) c1)) b (rc most (.slice A1 (k + 1) c1) (.slice AS k cS) (.slice AO k cO) z256) 56 := hb1.set 1 _
  have hS1 := s1.q (by decide) (k1.q (by decide) h.hS)
  have BW1 : Below base w (w1.setCell ⟨b, 1, none⟩ (.slice A1 (k + 1) c1)) := B1.setCell (p := ⟨b, 1, none⟩) hbb _
  obtain ⟨A2, c2, w2, run2, q2, k2, B2⟩ := grow1 (w := w1.setCell ⟨b, 1, none⟩ (.slice A1 (k + 1) c1)) Try.underlying39 info32 rfl hS1 (.int .u64 0) rfl (by omega) (by omega) (by rw [size_set]; exact Nat.le_trans hbase B1.size)
  have hb2 := k2.has (by decide) hbW1
  have s2 : Keeps (· ≠ 56) w2 (w2.setCell ⟨b, 2, none⟩ (.slice A2 (k + 1) c2)) := (Keeps.refl _ _).set _ _ hb2 (by simp)
  have hbW2 : Has (w2.setCell ⟨b, 2, none⟩ (.slice A2 (k + 1) c2)) b (rc most (.slice A1 (k + 1) c1) (.slice A2 (k + 1) c2) (.slice AO k cO) z256) 56 := hb2.set 2 _
  have hO2 := s2.q (by decide) (k2.q (by decide) (s1.q (by decide) (k1.q (by decide) h.hO)))
  have BW2 : Below base w (w2.setCell ⟨b, 2, none⟩ (.slice A2 (k + 1) c2)) := (BW1.trans B2).setCell (p := ⟨b, 2, none⟩) hbb _
  obtain ⟨A3, c3, w3, run3, q3, k3, B3⟩ := grow1 (w := w2.setCell ⟨b, 2, none⟩ (.slice A2 (k + 1) c2)) Try.underlying33 info3 rfl hO2 (.int .i64 k) rfl (by omega) (by omega) (Nat.le_trans hbase BW2.size)
  have hb3 := k3.has (by decide) hbW2
  have s3 : Keeps (· ≠ 56) w3 (w3.setCell ⟨b, 3, none⟩ (.slice A3 (k + 1) c3)) := (Keeps.refl _ _).set _ _ hb3 (by simp)
  rw [size_set] at run2 run3
  refine ⟨A1, c1, w1, A2, c2, w2, A3, c3, w3, ⟨run1, hb1.cell rfl, hb1.free 1⟩, ⟨hbW1.cell rfl, run2, hb2.cell rfl, hb2.free 2⟩, ⟨hbW2.cell rfl, run3, hb3.cell rfl, hb3.free 3⟩, ⟨hb3.set 3 _, ?_, ?_, ?_⟩, (BW2.trans B3).setCell (p := ⟨b, 3, none⟩) hbb _⟩
  · rw [List.replicate_succ']
    exact s3.q (by decide) (k3.q (by decide) (s2.q (by decide) (k2.q (by decide) (s1.q (by decide) q1))))
  · rw [List.replicate_succ']
    exact s3.q (by decide) (k3.q (by decide) (s2.q (by decide) q2))
  · rw [on_map]
    exact s3.q (by decide) q3
set_option maxHeartbeats 4000000 in
theorem r_new (n : Nat) (most : Int) (w : World) (hn1 : 1 ≤ n ∧ n ≤ 8) :
    Calls Try.prog 16 #[.int .i64 n, .int .i64 most] w fun e w' => e = .returned (.pointer (some ⟨w.heap.size, 0, none⟩)) ∧ (∃ r ro rk l lo lk rv O, RAt w' w.heap.size w.heap.size r ro rk l lo lk rv O (rfresh n most)) ∧ Below w.heap.size w w' := by
  have hz := zero56
  have hz1 := Z56_ne
  have hz2 := Z56_size
  have hbt := built56
  go_enter Try.func16, Try.ntmps16
  go_wp2
  have HG : Hid (Rg (w.alloc (.cells (rc most (.slice none 0 0) (.slice none 0 0) (.slice none 0 0) z256).toArray 56)) w.heap.size w.heap.size most 0 none 0 none 0 none 0) := Lib.hid ⟨Has.new w _ 56, q_nil _ _ _, q_nil _ _ _, q_nil _ _ _⟩
  have HB := Lib.hid ((Below.refl w.heap.size w).alloc (Nat.le_refl _) (.cells (rc most (.slice none 0 0) (.slice none 0 0) (.slice none 0 0) z256).toArray 56))
  obtain ⟨b, hb⟩ : ∃ b, b = w.heap.size := ⟨_, rfl⟩
  rw [← hb] at HG HB ⊢
  have hbb : b ≤ b := Nat.le_refl _
  have hbw : b ≤ w.heap.size := Nat.le_of_eq hb
  have HBB := Lib.hid hb
  clear hb hz hz1 hz2 hbt
  generalize w.alloc (.cells (rc most (.slice none 0 0) (.slice none 0 0) (.slice none 0 0) z256).toArray 56) = W at *
  go_loopg [6] n (fun g vi wr => ∃ (k : Nat), k + g = n ∧ vi = .int .i64 k ∧ Hid (∃ AL cL AS cS AO cO, Rg wr b b most k AL cL AS cS AO cO) ∧ Hid (Below b w wr))
  case atStart => exact ⟨0, by omega, rfl, Lib.hid ⟨_, _, _, _, _, _, HG.out⟩, HB⟩
  case round =>
    clear HG HB
    obtain ⟨k, hkg, rfl, hG, hB⟩ := hrel
    by_cases hk : k < n
    · obtain ⟨AL, cL, AS, cS, AO, cO, G⟩ := hG.out
      obtain ⟨A1, c1, w1, A2, c2, w2, A3, c3, w3, ⟨run1, x1, f1⟩, ⟨y2, run2, x2, f2⟩, ⟨y3, run3, x3, f3⟩, G', B'⟩ := rg_step G (by omega) (Nat.le_trans hbw hB.out.size) hbb
      have R1 := Lib.hid run1
      have R2 := Lib.hid run2
      have R3 := Lib.hid run3
      have HG' := Lib.hid G'
      have HB' := Lib.hid (hB.out.trans B')
      have y1 : wr.cell? ⟨b, 1, none⟩ = some (.slice AL k cL) := G.hb.cell rfl
      have hbl := G.hb.lt
      clear run1 run2 run3 G' B' hG hB G
      go_wp2_with (at_builtin; first
        | (refine wpList_app rfl _ _ 53 rfl (.slice AL k cL) (.slice (some ⟨wr.heap.size, 0, none⟩) 1 1) (.slice A1 (k + 1) c1) _ w1 rfl rfl R1.out ?_)
        | (refine wpList_app rfl _ _ 39 rfl (.slice AS k cS) (.slice (some ⟨w1.heap.size, 0, none⟩) 1 1) (.slice A2 (k + 1) c2) _ w2 rfl rfl R2.out ?_)
        | (refine wpList_app rfl _ _ 33 rfl (.slice AO k cO) (.slice (some ⟨w2.heap.size, 0, none⟩) 1 1) (.slice A3 (k + 1) c3) _ w3 rfl rfl R3.out ?_))
      go_roundg (n - (k + 1))
      case measure => omega
      case rel => exact ⟨k + 1, by omega, by go_num, Lib.hid ⟨_, _, _, _, _, _, HG'.out⟩, HB'⟩
    · obtain rfl : k = n := by omega
      go_wp2
      go_ret
      obtain ⟨AL, cL, AS, cS, AO, cO, G⟩ := hG.out
      have e := HBB.out
      subst e
      exact ⟨rfl, rg_done G hn1.1 hbb, hB.out⟩
end Go.Proofs.Ytggfjnicofgohaa.Sf
