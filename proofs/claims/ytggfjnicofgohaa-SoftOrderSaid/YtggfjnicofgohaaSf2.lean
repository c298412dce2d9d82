import Derived.Test.YtggfjnicofgohaaSf
namespace Go.Proofs.Ytggfjnicofgohaa.Sf
open Go.RowKit Blk Go.Proofs.YtggfjnicofgohaaW.PrintWords
set_option linter.unusedVariables false

def fresh (n most : Nat) : St := ⟨n, most, List.replicate n [], List.replicate n 0, (List.range n).map (fun (i : Nat) => (i : Int)), z256, z256⟩
def young (n most k : Nat) : St := ⟨n, most, List.replicate n [], List.replicate n 0, (List.range k).map (fun (i : Nat) => (i : Int)), z256, z256⟩
def nils (n : Nat) : List Value := List.replicate n (.slice none 0 0)
/-- It lies somewhere. -/
def Lies (w : World) (base b : Nat) (s : St) : Prop := ∃ r l rv O, At w base b r l rv O s
/-- A young one. -/
def Young (w : World) (base b : Nat) (n most k : Nat) : Prop := ∃ r l O, At w base b r l (nils n) O (young n most k)

theorem rep_map (n : Nat) : (List.replicate n (0 : Int)).map (Value.int .u64) = List.replicate n (.int .u64 0) := by simp
theorem made_cells (z : Value) (n : Nat) : madeCells #[z] n = (List.replicate n z).toArray := by
  apply Array.ext
  · simp [madeCells]
  · intro i h1 h2
    simp [madeCells]
    rw [Nat.mod_one]; rfl

theorem young0 {w : World} {base b r l n most : Nat} (hb : Has w b (sc most (.slice (some ⟨r, 0, none⟩) n n) (.slice (some ⟨l, 0, none⟩) n n) (.slice none 0 0) z256 z256) 62)
    (hr : Has w r (nils n) 65) (hl : Has w l (List.replicate n (.int .u64 0)) 32) (gb : base ≤ b) (gr : base ≤ r) (gl : base ≤ l) : Young w base b n most 0 := by
  refine ⟨r, l, .slice none 0 0, hb, hr, by rw [show (young n most 0).lost = List.replicate n 0 from rfl, rep_map]; exact hl, q_of_own (World.ownsRow_nil _ _ _ _), List.length_replicate .., List.length_replicate .., List.length_replicate .., ?_, ?_, gb, gr, gl, z256_len, z256_len⟩
  · intro i v row hv hrow
    obtain rfl := List.eq_of_mem_replicate (List.mem_of_getElem? hv)
    obtain rfl := List.eq_of_mem_replicate (List.mem_of_getElem? (show (List.replicate n ([] : List (Int × Int)))[i]? = some row from hrow))
    exact q_of_own (World.ownsRow_nil _ _ _ _)
  · intro i j v v' _ hv hv'
    obtain rfl := List.eq_of_mem_replicate (List.mem_of_getElem? hv)
    intro k hk
    simp [Value.ownBlock] at hk

/-- Where all of its kinds are as they were, it is as it was. -/
theorem At.move {w w' : World} {base b r l : Nat} {rv : List Value} {O : Value} {s : St} (h : At w base b r l rv O s) (hk : Keeps (fun t => t = 62 ∨ t = 65 ∨ t = 32 ∨ t = 3 ∨ t = 67) w w') : At w' base b r l rv O s :=
  ⟨hk.has (by decide) h.hb, hk.has (by decide) h.hr, hk.has (by decide) h.hl, hk.q (by decide) h.ho, h.rvl, h.rowl, h.lostl, fun i v row h1 h2 => hk.q (by decide) (h.q i v row h1 h2), h.ne, h.gb, h.gr, h.gl, h.cl, h.kl⟩
theorem Young.move {w w' : World} {base b n most k : Nat} (h : Young w base b n most k) (hk : Keeps (fun t => t = 62 ∨ t = 65 ∨ t = 32 ∨ t = 3 ∨ t = 67) w w') : Young w' base b n most k := by
  obtain ⟨r, l, O, h⟩ := h
  exact ⟨r, l, O, h.move hk⟩
theorem keeps_drew (T : TypeId → Prop) (w : World) : Keeps T w w.drew := fun _ _ _ _ _ => rfl
theorem keeps_drewN (T : TypeId → Prop) (w : World) (n : Nat) : Keeps T w (w.drewN n) := fun _ _ _ _ _ => rfl
/-- The cores that are on become other ones. -/
theorem At.on {w w' : World} {base b r l : Nat} {rv : List Value} {O O' : Value} {s : St} {on' : List Int} (h : At w base b r l rv O s) (hk : Keeps (· ≠ 3) w w') (ho : QRow w' base 3 1 O' on'.length (on'.map (Value.int .i64))) :
    At (w'.setCell ⟨b, 3, none⟩ O') base b r l rv O' { s with on := on' } := by
  have hb := hk.has (by decide) h.hb
  have hks : Keeps (· ≠ 62) w' (w'.setCell ⟨b, 3, none⟩ O') := (Keeps.refl _ _).set _ _ hb (by simp)
  exact ⟨hb.set 3 O', hks.has (by decide) (hk.has (by decide) h.hr), hks.has (by decide) (hk.has (by decide) h.hl), hks.q (by decide) ho, h.rvl, h.rowl, h.lostl,
    fun i v row h1 h2 => hks.q (by decide) (hk.q (by decide) (h.q i v row h1 h2)), h.ne, h.gb, h.gr, h.gl, h.cl, h.kl⟩
theorem on_map (k : Nat) : ((List.range (k + 1)).map (fun (i : Nat) => (i : Int))).map (Value.int .i64) = ((List.range k).map (fun (i : Nat) => (i : Int))).map (Value.int .i64) ++ [.int .i64 k] := by
  rw [List.range_succ]; simp

/-- One core more that is on. -/
theorem grow_on {w : World} {base b r l n most k : Nat} {O : Value} (h : At w base b r l (nils n) O (young n most k)) (hk : k < 8) (hbase : base ≤ w.heap.size) :
    ∃ O' w1, (Builtin.append_ #[33, 33] 33 #[O, .slice (some ⟨w.heap.size, 0, none⟩) 1 1]).run Try.prog (w.alloc (.cells #[.int .i64 k] 3)) = .ok O' w1 ∧
      w1.cell? ⟨b, 3, none⟩ = some O ∧ w1.frozen? ⟨b, 3, none⟩ = false ∧ At (w1.setCell ⟨b, 3, none⟩ O') base b r l (nils n) O' (young n most (k + 1)) ∧ Below w.heap.size w (w.alloc (.cells #[.int .i64 k] 3)) ∧
      (w.alloc (.cells #[.int .i64 k] 3)).grownBy w1 O.ownBlock ∧ ∀ j, O.ownBlock = some j → base ≤ j := by
  obtain ⟨i0, hi, hz0, hz1, hz2⟩ := info_parts info3
  have hq : QRow (w.alloc (.cells #[.int .i64 k] 3)) base 3 1 O ((List.range k).map (fun (i : Nat) => (i : Int))).length (((List.range k).map (fun (i : Nat) => (i : Int))).map (Value.int .i64)) :=
    ((Keeps.refl (fun _ => True) w).alloc _).q trivial h.ho
  have hlen : ((List.range k).map (fun (i : Nat) => (i : Int))).length = k := by simp
  obtain ⟨O', w1, hrun, hq', hg, hat⟩ := q_append (P := Try.prog) (w.alloc (.cells #[.int .i64 k] 3)) base 33 33 3 i0 (.int .i64 0) 1 8 Try.underlying33 hi hz0 hz1 hz2 rfl (by decide) O _ _ hq ⟨w.heap.size, 0, none⟩ 1 1 [.int .i64 k] rfl
    (fun j u hu => by
      match j, hu with
      | 0, hu =>
        simp only [List.getElem?_cons_zero, Option.some.injEq] at hu
        subst hu
        rw [add_at]
        exact (Has.new w [.int .i64 k] 3).cell rfl
      | j + 1, hu => simp at hu)
    (fun u hu => by simp at hu; subst hu; rfl) (by decide) (by rw [hlen]; unfold maxLen; omega) (by rw [hlen]; omega) (by simp; omega)
  have hkp : Keeps (· ≠ 3) w w1 := ((Keeps.refl _ _).alloc _).grown hg fun j hj => by
    obtain ⟨_, c, hc⟩ := q_typed hq j hj
    exact ⟨c, 3, hc, by simp⟩
  have hb1 := hkp.has (by decide) h.hb
  refine ⟨O', w1, hrun, hb1.cell rfl, hb1.free 3, ?_, (Below.refl _ _).alloc (Nat.le_refl _) _, hg, fun j hj => (q_typed h.ho j hj).1⟩
  have := h.on (on' := (List.range (k + 1)).map (fun (i : Nat) => (i : Int))) hkp (by
    rw [on_map]
    rw [show ((List.range (k + 1)).map (fun (i : Nat) => (i : Int))).length = ((List.range k).map (fun (i : Nat) => (i : Int))).length + 1 by simp]
    exact hq')
  exact this

theorem alloc_size (w : World) (o : Obj) : (w.alloc o).heap.size = w.heap.size + 1 := Array.size_push ..
theorem new_at (w : World) (c : List Value) (T : TypeId) (k : Nat) (hk : w.heap.size = k) : Has (w.alloc (.cells c.toArray T)) k c T := hk ▸ Has.new w c T
theorem young_a (w : World) (n most : Nat) : Young (((w.alloc (.cells (nils n).toArray 65)).alloc (.cells (List.replicate n (.int .u64 0)).toArray 32)).alloc (.cells (sc most (.slice (some ⟨w.heap.size, 0, none⟩) n n) (.slice (some ⟨w.heap.size + 1, 0, none⟩) n n) (.slice none 0 0) z256 z256).toArray 62)) w.heap.size (w.heap.size + 2) n most 0 :=
  young0 (r := w.heap.size) (l := w.heap.size + 1) (new_at _ _ _ _ (by rw [alloc_size, alloc_size])) (((new_at _ _ _ _ rfl).alloc _).alloc _) ((new_at _ _ _ _ (by rw [alloc_size])).alloc _) (by omega) (by omega) (by omega)
theorem young_b (w : World) (n most : Nat) : Young (((w.alloc (.cells (List.replicate n (.int .u64 0)).toArray 32)).alloc (.cells (nils n).toArray 65)).alloc (.cells (sc most (.slice (some ⟨w.heap.size + 1, 0, none⟩) n n) (.slice (some ⟨w.heap.size, 0, none⟩) n n) (.slice none 0 0) z256 z256).toArray 62)) w.heap.size (w.heap.size + 2) n most 0 :=
  young0 (r := w.heap.size + 1) (l := w.heap.size) (new_at _ _ _ _ (by rw [alloc_size, alloc_size])) ((new_at _ _ _ _ (by rw [alloc_size])).alloc _) (((new_at _ _ _ _ rfl).alloc _).alloc _) (by omega) (by omega) (by omega)
theorem below3 (w : World) (a b c : Obj) : Below w.heap.size w (((w.alloc a).alloc b).alloc c) :=
  (((Below.refl _ _).alloc (Nat.le_refl _) _).alloc (by rw [alloc_size]; omega) _).alloc (by rw [alloc_size, alloc_size]; omega) _
def NewPost (w : World) (n most : Nat) (w' : World) : Prop := Young w' w.heap.size (w.heap.size + 2) n most n ∧ Below w.heap.size w w'

set_option maxHeartbeats 4000000 in
set_option maxRecDepth 100000 in
theorem new_c (n most : Nat) (w : World) (h1 : 1 ≤ n ∧ n ≤ 8) (h2 : 1 ≤ most ∧ most ≤ 256) :
    Calls Try.prog 10 #[.int .i64 n, .int .i64 most] w fun e w' => e = .returned (.tuple #[.pointer (some ⟨w.heap.size + 2, 0, none⟩), .int .i64 0]) ∧ NewPost w n most w' := by
  have hm1 := run_make_row' (P := Try.prog) 60 65 (.slice none 0 0) 24 Try.underlying60 info65 rfl .i64 .i64 n (by omega) (by omega)
  have hm2 := run_make_row' (P := Try.prog) 39 32 (.int .u64 0) 8 Try.underlying39 info32 rfl .i64 .i64 n (by omega) (by omega)
  rw [made_cells] at hm1 hm2
  have hz := zero62
  have hz1 := Z62_ne
  have hz2 := Z62_size
  have hbt := built
  go_enter Try.func10, Try.ntmps10
  go_wp2
  go_region
  all_goals
    clear hm1 hm2 hz hz1 hz2 hbt
    generalize hW : World.drew (World.alloc _ _) = W2
    have HY : Young W2 w.heap.size (w.heap.size + 2) n most 0 ∧ Below w.heap.size w W2 := by
      subst hW
      first | exact ⟨(young_a w n most).move (keeps_drew _ _), (below3 w _ _ _).drew⟩ | exact ⟨(young_b w n most).move (keeps_drew _ _), (below3 w _ _ _).drew⟩
    clear hW
    have HB := Lib.hid HY.2
    have HYY := Lib.hid HY.1
    clear HY
    obtain ⟨b, hbb⟩ : ∃ b, b = w.heap.size + 1 + 1 := ⟨_, rfl⟩
    rw [← hbb]
    have HBB := Lib.hid hbb
    rw [show w.heap.size + 2 = b from hbb.symm] at HYY
    have hgb : w.heap.size ≤ b := by omega
    clear hbb
    go_wp2
    go_loopg [7, 30] n (fun g vc vi wr => ∃ k : Nat, k + g = n ∧ vi = .int .i64 k ∧ Hid (Young wr w.heap.size b n most k) ∧ Hid (Below w.heap.size w wr))
    case atStart => exact ⟨0, by omega, rfl, HYY, HB⟩
    case round =>
      clear HB HYY
      obtain ⟨k, hkg, rfl, hY, hB⟩ := hrel
      by_cases hk : k < n
      · obtain ⟨r, l, O, hA⟩ := hY.out
        obtain ⟨AO, cO, eO, _⟩ := q_slice hA.ho
        subst eO
        obtain ⟨O', w1, hrun, c3, f3, hA', hB1, hg, hO⟩ := grow_on hA (by omega) hB.out.size
        obtain ⟨AN, cN, eN, _⟩ := q_slice hA'.ho
        subst eN
        have d3 : wr.cell? ⟨b, 3, none⟩ = some _ := hA.hb.cell rfl
        have hzl2 : (young n most (k + 1)).on.length = k + 1 := by simp [young]
        have hzl : (young n most k).on.length = k := by simp [young]
        rw [hzl, hzl2] at hrun
        rw [hzl] at c3 d3
        rw [hzl2] at hA'
        clear hzl hzl2
        have hlt := hA.hb.lt
        have HA' := Lib.hid hA'
        have HBN := Lib.hid (show Below w.heap.size w (w1.setCell ⟨b, 3, none⟩ (.slice AN (k + 1) cN)) from by
          refine Below.setCell ?_ ?_ _
          · exact (hB.out.trans (hB1.mono hB.out.size)).trans ⟨hg.os, hg.tape, hg.output, hg.size, fun i hi => hg.block i (by rw [alloc_size]; have := hB.out.size; omega) (fun e => by have := hO i e.symm; omega)⟩
          · exact hgb)
        clear hA hA' hB1 hg hO hY hB
        have HRUN := Lib.hid hrun
        clear hrun
        go_wp2_with (at_builtin; go_loud (refine wpList_app (P := Try.prog) rfl _ _ 33 rfl (.slice AO k cO) (.slice (some ⟨wr.heap.size, 0, none⟩) 1 1) (.slice AN (k + 1) cN) _ w1 rfl rfl HRUN.out ?_))
        go_roundg (n - (k + 1))
        case measure => omega
        case rel => exact ⟨k + 1, by omega, by go_num, Lib.hid ⟨r, l, _, HA'.out⟩, HBN⟩
      · obtain rfl : k = n := by omega
        go_wp2
        go_ret2
        exact ⟨by rw [show w.heap.size + 2 = b from HBB.out.symm]; rfl, by rw [show w.heap.size + 2 = b from HBB.out.symm]; exact hY.out, hB.out⟩
end Go.Proofs.Ytggfjnicofgohaa.Sf
