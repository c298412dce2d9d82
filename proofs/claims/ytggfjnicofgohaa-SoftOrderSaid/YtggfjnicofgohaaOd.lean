import Derived.Test.YtggfjnicofgohaaOc
import Derived.Test.YtggfjnicofgohaaRl
namespace Go.Proofs.Ytggfjnicofgohaa.Sf
open Go.RowKit Blk Go.Maps Go.ChangeMaps Go.Proofs.YtggfjnicofgohaaW.PrintWords
set_option linter.unusedVariables false

/-- How many wait, bucket by bucket. -/
def TW (wt : Nat → List Int) : Int := ((List.range 256).map fun j => ((wt j).length : Int)).sum
theorem TW_set (wt : Nat → List Int) (j : Nat) (hj : j < 256) (l : List Int) : TW (fun k => if k = j then l else wt k) = TW wt - ((wt j).length : Int) + l.length := by
  unfold TW
  have e : ((List.range 256).map fun k => (((if k = j then l else wt k) : List Int).length : Int)) = ((List.range 256).map fun k => ((wt k).length : Int)).set j l.length := by
    refine List.ext_getElem (by simp) fun i h1 h2 => ?_
    rw [List.getElem_set]
    simp only [List.getElem_map, List.getElem_range]
    by_cases e : j = i
    · subst e; simp
    · rw [if_neg (Ne.symm e), if_neg e]
  rw [e, sum_set _ _ _ (by simpa using hj)]
  congr 2
  rw [List.getD_eq_getElem?_getD, List.getElem?_map, List.getElem?_range hj]
  rfl
theorem TW_start : TW (fun _ => []) = 0 := by decide +kernel
theorem Al.short {s : St} {wt : Nat → List Int} {at' : Nat → Int} {K : Nat} (h : Al s wt at' K) (j : Nat) (hj : j < 256) : (wt j).length ≤ 256 := by
  have h1 := idsOf_len (s.rows.getD (s.cor.getD j 0).toNat []) j
  rw [← h.ids j hj] at h1
  have h2 := cntOf_bd (s.rows.getD (s.cor.getD j 0).toNat []) j
  have h3 := getD_rows h.len (s.cor.getD j 0).toNat
  have h4 := h.m256
  omega
/-- With a step of the script. -/
structure Wx (w0 : World) (b l mb ma : Nat) (s : St) (n : Nat) (V : Nat → Value) (wt : Nat → List Int) (at' : Nat → Int) (D Da : DataW Value) (k : Nat) (x : Op.Stp) (w : World) : Prop where
  wt : Wt w0 b l mb ma s n V wt at' D Da w
  y : Has w k (xc x) 35
section
variable {w0 w : World} {b l mb ma n k K : Nat} {s : St} {V : Nat → Value} {wt : Nat → List Int} {at' : Nat → Int} {D Da : DataW Value} {x : Op.Stp}
theorem Wt.step (h : Wt w0 b l mb ma s n V wt at' D Da w) (x : Op.Stp) : Wx w0 b l mb ma s n V wt at' D Da w.heap.size x (w.alloc (.cells (xc x).toArray 35)) := ⟨h.alloc _, Has.new w (xc x) 35⟩
theorem wput (core hash id : Int) {s' : St} {v : Int} (h : Wx w0 b l mb ma s n V wt at' D Da k x w) (ha : Al s wt at' K) (hK : K ≤ 100000) (hh : 0 ≤ hash ∧ hash ≤ 4294967295) (hp : s.put core hash id = (s', v)) :
    Calls Try.prog 14 #[.pointer (some ⟨b, 0, none⟩), .int .i64 core, .int .u32 hash, .int .u64 id] w fun e w' => e = .returned (.int .i64 v) ∧ Wx w0 b l mb ma s' n V wt at' D Da k x w' := by
  obtain ⟨rr, rv, O, A⟩ := h.wt.a
  obtain ⟨j, hj, hj2⟩ := bucket hash
  have hc0 : 0 ≤ s.cnt.getD (hash % 256).toNat 0 := by
    rw [hj, Int.toNat_natCast, ha.cnt j hj2]
    exact (cntOf_bd _ _).1
  refine (put_c A (ha.ok hK) (by decide) core hash id hh h.wt.below.size hc0).mono ?_
  rintro e w' ⟨rfl, ⟨rv', hA'⟩, hF⟩
  rw [hp] at hA' ⊢
  exact ⟨rfl, h.wt.byS ⟨_, _, _, hA'⟩ hF, hF.kept.has (by decide) h.y⟩
theorem wtake (core : Int) {s' : St} {v1 v2 : Int} {v3 : Bool} (h : Wx w0 b l mb ma s n V wt at' D Da k x w) (ha : Al s wt at' K) (hK : K ≤ 100000) (hp : s.take core = (s', v1, v2, v3)) :
    Calls Try.prog 12 #[.pointer (some ⟨b, 0, none⟩), .int .i64 core] w fun e w' => e = .returned (.tuple #[.int .u64 v1, .int .u32 v2, .bool v3]) ∧ Wx w0 b l mb ma s' n V wt at' D Da k x w' := by
  obtain ⟨rr, rv, O, A⟩ := h.wt.a
  refine (take_c A (ha.ok hK) (by decide) core).mono ?_
  rintro e w' ⟨rfl, ⟨rv', hA'⟩, hF⟩
  rw [hp] at hA' ⊢
  exact ⟨rfl, h.wt.byS ⟨_, _, _, hA'⟩ hF, hF.kept.has (by decide) h.y⟩
theorem wcores {s' : St} {v : Int} (h : Wx w0 b l mb ma s n V wt at' D Da k x w) (hn : s.n ≤ 8) {base2 : Nat} (A : Option Addr) (c : Nat) (on : List Int) (hq : QRow w base2 3 1 (.slice A on.length c) on.length (on.map (Value.int .i64))) (hlen : on.length ≤ 1000000) (hp : s.cores on = (s', v)) :
    Calls Try.prog 11 #[.pointer (some ⟨b, 0, none⟩), .slice A on.length c] w fun e w' => e = .returned (.int .i64 v) ∧ Wx w0 b l mb ma s' n V wt at' D Da k x w' := by
  obtain ⟨rr, rv, O, A'⟩ := h.wt.a
  refine (cores_c A' hn h.wt.below.size A c on hq hlen).mono ?_
  rintro e w' ⟨rfl, ⟨O', hA'⟩, hF⟩
  rw [hp] at hA' ⊢
  exact ⟨rfl, h.wt.byS ⟨_, _, _, hA'⟩ hF, hF.kept.has (by decide) h.y⟩
theorem wtarget (hash : Int) (h : Wx w0 b l mb ma s n V wt at' D Da k x w) (ha : Al s wt at' K) (hh : 0 ≤ hash ∧ hash ≤ 4294967295) :
    Calls Try.prog 13 #[.pointer (some ⟨b, 0, none⟩), .int .u32 hash] w fun e w' => e = .returned (.tuple #[.int .i64 (s.target hash), .int .i64 0]) ∧ w = w' := by
  obtain ⟨rr, rv, O, A⟩ := h.wt.a
  exact target_c A hash hh ha.on1 (Nat.le_trans ha.on8 ha.n8)
theorem wlen (core : Int) (h : Wt w0 b l mb ma s n V wt at' D Da w) (hn : s.n ≤ 8) : Calls Try.prog 15 #[.pointer (some ⟨b, 0, none⟩), .int .i64 core] w fun e w' => e = .returned (.int .i64 (s.len core)) ∧ w = w' := by
  obtain ⟨rr, rv, O, A⟩ := h.a
  exact len_c A core hn
theorem wcells (h : Wx w0 b l mb ma s n V wt at' D Da k x w) : w.cell? ⟨k, 1, none⟩ = some (.int .i64 x.core) ∧ w.cell? ⟨k, 2, none⟩ = some (.int .u32 x.hash) ∧ w.cell? ⟨k, 3, none⟩ = some (.int .u64 x.id) ∧ w.cell? ⟨k, 4, none⟩ = some (.slice x.A x.on.length x.c) :=
  ⟨h.y.cell rfl, h.y.cell rfl, h.y.cell rfl, h.y.cell rfl⟩
theorem wt_start {w w1 : World} {b N most : Nat} (HL : Own w b (fresh N most) w1) : ∃ l, Wt w b l w1.heap.size (w1.heap.size + 1) (fresh N most) 0 (fun _ => .slice none 0 0) (fun _ => []) (fun _ => 0) (.map []) (.map []) ((w1.alloc (.map #[] 0)).alloc (.map #[] 0)) := by
  obtain ⟨rr, l, rv, O, A⟩ := HL.is
  have hB : Below w1.heap.size w1 ((w1.alloc (.map #[] 0)).alloc (.map #[] 0)) := (((Below.refl _ _).alloc (Nat.le_refl _) _).alloc (by rw [alloc_size]; omega) _)
  have hb := (bk_start w1).move (World.grownBy_alloc (w1.alloc (.map #[] 0)) (.map #[] 0) none) (by simp) (fun j _ k hk => by simp)
  have hm : ((w1.alloc (.map #[] 0)).alloc (.map #[] 0)).ownsMap (H := Value) Try.prog 31 (plainElem Try.prog 3) (w1.alloc (.map #[] 0)).heap.size 0 (.map []) := World.ownsMap_made _ _ _ _
  rw [alloc_size] at hm
  exact ⟨l, ⟨rr, rv, O, A.move (keeps_below hB)⟩, HL.below.trans (hB.mono HL.below.size), hb, hm, isMap_empty, fun j _ => rfl, A.hl.lt, HL.below.size, Nat.le_trans HL.below.size (Nat.le_succ _), by omega⟩
end
end Go.Proofs.Ytggfjnicofgohaa.Sf
