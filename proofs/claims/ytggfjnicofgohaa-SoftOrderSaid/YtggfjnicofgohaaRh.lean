import Derived.Test.YtggfjnicofgohaaRg
namespace Go.Proofs.Ytggfjnicofgohaa.Sf
open Go.RowKit Blk Go.Proofs.YtggfjnicofgohaaW.PrintWords
set_option linter.unusedVariables false

section
variable {w : World} {base b r ro rk l lo lk : Nat} {rv : List Value} {O : Value} {s : Rf}
set_option maxHeartbeats 2000000 in
theorem r_put_bad (h : RAt w base b r ro rk l lo lk rv O s) (core hash id : Int) (hc : core < 0 ∨ (s.n : Int) ≤ core) :
    Calls Try.prog 17 #[.pointer (some ⟨b, 0, none⟩), .int .i64 core, .int .u32 hash, .int .u64 id] w fun e w' => e = .returned (.int .i64 2) ∧ w = w' := by
  have H := Lib.hid h
  have HM := Lib.hid (may_2 _ _ hc)
  clear h hc
  go_enter Try.func17, Try.ntmps17
  go_wp2_with fail
  refine (r_is H.out core).mono ?_
  rintro e w' ⟨rfl, rfl⟩
  rw [HM.out]
  go_wp2
  go_ret
  exact ⟨rfl, rfl⟩
theorem r_put_c (h : RAt w base b r ro rk l lo lk rv O s) (hn : s.n ≤ 8) (hlen : ∀ i, (s.rows.getD i []).length ≤ 256) (hlo : ∀ i, 0 ≤ s.lost.getD i 0 ∧ s.lost.getD i 0 ≤ 18446744073709551615) (core hash id : Int) (hh : 0 ≤ hash ∧ hash ≤ 4294967295) (hbase : base ≤ w.heap.size) :
    Calls Try.prog 17 #[.pointer (some ⟨b, 0, none⟩), .int .i64 core, .int .u32 hash, .int .u64 id] w fun e w' => e = .returned (.int .i64 (s.put core hash id).2) ∧ RPost base b r ro rk l lo lk O (s.put core hash id).1 w w' := by
  unfold Rf.put
  by_cases hc : core < 0 ∨ (s.n : Int) ≤ core
  · rw [if_pos hc]
    refine (r_put_bad h core hash id hc).mono ?_
    rintro e w' ⟨rfl, rfl⟩
    exact ⟨rfl, ⟨_, h⟩, Ft.refl _ _⟩
  rw [if_neg hc]
  obtain ⟨i, rfl⟩ := Int.eq_ofNat_of_zero_le (show 0 ≤ core by omega)
  rw [Int.toNat_natCast]
  have hi : i < s.n := by omega
  by_cases hf : s.most ≤ ((s.rows.getD i []).length : Int)
  · rw [if_pos hf]
    exact r_put_full h i hi hn hash id hf (hlen i) (hlo i)
  · rw [if_neg hf]
    exact r_put_ok h i hi hn hash id hh hf (hlen i) hbase
theorem r_take_c (h : RAt w base b r ro rk l lo lk rv O s) (hn : s.n ≤ 8) (hlen : ∀ i, (s.rows.getD i []).length ≤ 256) (core : Int) :
    Calls Try.prog 19 #[.pointer (some ⟨b, 0, none⟩), .int .i64 core] w fun e w' => e = .returned (.tuple #[.int .u64 (s.take core).2.1, .int .u32 (s.take core).2.2.1, .bool (s.take core).2.2.2]) ∧ RPost base b r ro rk l lo lk O (s.take core).1 w w' := by
  unfold Rf.take
  by_cases hc : core < 0 ∨ (s.n : Int) ≤ core
  · rw [if_pos hc]
    refine (r_take_bad h core hc).mono ?_
    rintro e w' ⟨rfl, rfl⟩
    exact ⟨rfl, ⟨_, h⟩, Ft.refl _ _⟩
  rw [if_neg hc]
  obtain ⟨i, rfl⟩ := Int.eq_ofNat_of_zero_le (show 0 ≤ core by omega)
  rw [Int.toNat_natCast]
  have hi : i < s.n := by omega
  have hrl := h.rowl
  have e1 : s.rows[i]? = some (s.rows.getD i []) := by rw [List.getD_eq_getElem?_getD, List.getElem?_eq_getElem (by omega)]; rfl
  have hl := hlen i
  cases hg : s.rows.getD i [] with
  | nil =>
    rw [hg] at e1
    refine (r_take_none h i hi hn e1).mono ?_
    rintro e w' ⟨rfl, rfl⟩
    exact ⟨rfl, ⟨_, h⟩, Ft.refl _ _⟩
  | cons p row =>
    rw [hg] at e1 hl
    rw [List.length_cons] at hl
    exact r_take_ok h i hi hn p row e1 (by omega)
end

/-- The program's object and the reference's, in one world. -/
structure Two (w0 : World) (B b b' l : Nat) (s : St) (r : Rf) (w : World) : Prop where
  a : ∃ rr rv O, At w w0.heap.size b rr l rv O s
  r : ∃ q ro rk l' lo lk rv O, RAt w B b' q ro rk l' lo lk rv O r
  lB : l < B
  wB : w0.heap.size ≤ B
  Bs : B ≤ w.heap.size
  below : Below w0.heap.size w0 w
def K35 (w w' : World) : Prop := Keeps (fun t => t = 35) w w'
section
variable {w0 w : World} {B b b' l : Nat} {s : St} {r : Rf} {K : Nat}
theorem Two.byS (h : Two w0 B b b' l s r w) {s' : St} {w' : World} (h1 : ∃ rr rv O, At w' w0.heap.size b rr l rv O s') (hf : Fr w0.heap.size l w w') : Two w0 B b b' l s' r w' ∧ K35 w w' := by
  refine ⟨⟨h1, ?_, h.lB, h.wB, Nat.le_trans h.Bs hf.size, hf.below h.below h.below.size⟩, hf.kept.mono (fun t ht => by subst ht; decide)⟩
  obtain ⟨q, ro, rk, l', lo, lk, rv, O, R⟩ := h.r
  have hl := h.lB
  refine ⟨q, ro, rk, l', lo, lk, rv, O, R.n1, hf.kept.has (by decide) R.hb, hf.kept.q (by decide) R.hr, ?_, hf.kept.q (by decide) R.ho, R.rowl, fun i v row x y => hf.kept.q (by decide) (R.q i v row x y), R.ne, R.gb, R.kl⟩
  refine q_move R.hl fun k hk => ?_
  obtain ⟨hge, c, hc⟩ := q_typed R.hl k hk
  exact hf.lost k c (by omega) hc
theorem Two.byR (h : Two w0 B b b' l s r w) {r' : Rf} {w' : World} (h1 : ∃ q ro rk l' lo lk rv O, RAt w' B b' q ro rk l' lo lk rv O r') (hf : Ft B w w') : Two w0 B b b' l s r' w' ∧ K35 w w' := by
  have hb : Below w0.heap.size w0 w' := h.below.trans ⟨hf.os, hf.tape, hf.output, hf.size, fun k hk => hf.low k (by have := h.wB; omega) (by have := h.below.size; omega)⟩
  refine ⟨⟨?_, h1, h.lB, h.wB, Nat.le_trans h.Bs hf.size, hb⟩, hf.kept.mono (fun t ht => by subst ht; decide)⟩
  obtain ⟨rr, rv, O, A⟩ := h.a
  have hl := h.lB
  refine ⟨rr, rv, O, hf.kept.has (by decide) A.hb, hf.kept.has (by decide) A.hr, (hf.low l hl A.hl.lt).trans A.hl, hf.kept.q (by decide) A.ho, A.rvl, A.rowl, A.lostl, fun i v row x y => hf.kept.q (by decide) (A.q i v row x y), A.ne, A.gb, A.gr, A.gl, A.cl, A.kl⟩
theorem Two.alloc (h : Two w0 B b b' l s r w) (o : Obj) : Two w0 B b b' l s r (w.alloc o) :=
  (h.byS (by obtain ⟨rr, rv, O, A⟩ := h.a; exact ⟨rr, rv, O, A.move ((Keeps.refl _ _).alloc o)⟩) ((Fr.refl _ _ _).alloc o)).1
theorem Two.drewN (h : Two w0 B b b' l s r w) (n : Nat) : Two w0 B b b' l s r (w.drewN n) :=
  (h.byS (by obtain ⟨rr, rv, O, A⟩ := h.a; exact ⟨rr, rv, O, A.move (keeps_drewN _ _ _)⟩) ((Fr.refl _ _ _).drewN n)).1
theorem Two.drew (h : Two w0 B b b' l s r w) : Two w0 B b b' l s r w.drew :=
  (h.byS (by obtain ⟨rr, rv, O, A⟩ := h.a; exact ⟨rr, rv, O, A.move (keeps_drew _ _)⟩) ((Fr.refl _ _ _).drew)).1
theorem Two.under (h : Two w0 B b b' l s r w) {w' : World} (hb : Below w.heap.size w w') : Two w0 B b b' l s r w' :=
  (h.byS (by obtain ⟨rr, rv, O, A⟩ := h.a; exact ⟨rr, rv, O, A.move (keeps_below hb)⟩) (fr_below hb)).1
theorem Two.put (h : Two w0 B b b' l s r w) {r1 : Rf} (hs : Sim s r1 K) (hK : K ≤ 100000) (core hash id : Int) (hh : 0 ≤ hash ∧ hash ≤ 4294967295) :
    Calls Try.prog 14 #[.pointer (some ⟨b, 0, none⟩), .int .i64 core, .int .u32 hash, .int .u64 id] w fun e w' => e = .returned (.int .i64 (s.put core hash id).2) ∧ Two w0 B b b' l (s.put core hash id).1 r w' ∧ K35 w w' := by
  obtain ⟨rr, rv, O, A⟩ := h.a
  refine (put_c A (hs.ok hK) (by decide) core hash id hh h.below.size (hs.cnt0 _)).mono ?_
  rintro e w' ⟨rfl, ⟨rv', hA'⟩, hF⟩
  exact ⟨rfl, h.byS ⟨_, _, _, hA'⟩ hF⟩
theorem Two.take (h : Two w0 B b b' l s r w) {r1 : Rf} (hs : Sim s r1 K) (hK : K ≤ 100000) (core : Int) :
    Calls Try.prog 12 #[.pointer (some ⟨b, 0, none⟩), .int .i64 core] w fun e w' => e = .returned (.tuple #[.int .u64 (s.take core).2.1, .int .u32 (s.take core).2.2.1, .bool (s.take core).2.2.2]) ∧ Two w0 B b b' l (s.take core).1 r w' ∧ K35 w w' := by
  obtain ⟨rr, rv, O, A⟩ := h.a
  refine (take_c A (hs.ok hK) (by decide) core).mono ?_
  rintro e w' ⟨rfl, ⟨rv', hA'⟩, hF⟩
  exact ⟨rfl, h.byS ⟨_, _, _, hA'⟩ hF⟩
theorem Two.cores (h : Two w0 B b b' l s r w) (hn : s.n ≤ 8) {base2 : Nat} (A : Option Addr) (c : Nat) (on : List Int) (hq : QRow w base2 3 1 (.slice A on.length c) on.length (on.map (Value.int .i64))) (hlen : on.length ≤ 1000000) :
    Calls Try.prog 11 #[.pointer (some ⟨b, 0, none⟩), .slice A on.length c] w fun e w' => e = .returned (.int .i64 (s.cores on).2) ∧ Two w0 B b b' l (s.cores on).1 r w' ∧ K35 w w' := by
  obtain ⟨rr, rv, O, A'⟩ := h.a
  refine (cores_c A' hn h.below.size A c on hq hlen).mono ?_
  rintro e w' ⟨rfl, ⟨O', hA'⟩, hF⟩
  exact ⟨rfl, h.byS ⟨_, _, _, hA'⟩ hF⟩
theorem Two.target (h : Two w0 B b b' l s r w) {r1 : Rf} (hs : Sim s r1 K) (hash : Int) (hh : 0 ≤ hash ∧ hash ≤ 4294967295) :
    Calls Try.prog 13 #[.pointer (some ⟨b, 0, none⟩), .int .u32 hash] w fun e w' => e = .returned (.tuple #[.int .i64 (s.target hash), .int .i64 0]) ∧ w = w' := by
  obtain ⟨rr, rv, O, A⟩ := h.a
  exact target_c A hash hh hs.on1 (Nat.le_trans hs.on8 hs.n8)
theorem Two.len (h : Two w0 B b b' l s r w) (core : Int) (hn : s.n ≤ 8) : Calls Try.prog 15 #[.pointer (some ⟨b, 0, none⟩), .int .i64 core] w fun e w' => e = .returned (.int .i64 (s.len core)) ∧ w = w' := by
  obtain ⟨rr, rv, O, A⟩ := h.a
  exact len_c A core hn
theorem Two.drops (h : Two w0 B b b' l s r w) (core : Int) (hn : s.n ≤ 8) : Calls Try.prog 21 #[.pointer (some ⟨b, 0, none⟩), .int .i64 core] w fun e w' => e = .returned (.int .u64 (s.drops core)) ∧ w = w' := by
  obtain ⟨rr, rv, O, A⟩ := h.a
  exact drops_c A core hn
theorem getD_rows {l : List (List (Int × Int))} {m : Nat} (h : ∀ row ∈ l, row.length ≤ m) (i : Nat) : (l.getD i []).length ≤ m := by
  by_cases hi : i < l.length
  · exact h _ (getD_mem hi)
  · rw [List.getD_eq_getElem?_getD, List.getElem?_eq_none (by omega)]; exact Nat.zero_le _
/-- The reference's calls ask of itself alone; the bounds come of a pair that it stands in. -/
theorem Two.rput (h : Two w0 B b b' l s r w) {s1 : St} (hs : Sim s1 r K) (hK : K ≤ 100000) (core hash id : Int) (hh : 0 ≤ hash ∧ hash ≤ 4294967295) :
    Calls Try.prog 17 #[.pointer (some ⟨b', 0, none⟩), .int .i64 core, .int .u32 hash, .int .u64 id] w fun e w' => e = .returned (.int .i64 (r.put core hash id).2) ∧ Two w0 B b b' l s (r.put core hash id).1 w' ∧ K35 w w' := by
  obtain ⟨q, ro, rk, l', lo, lk, rv, O, R⟩ := h.r
  refine (r_put_c R (by rw [hs.n]; exact hs.n8) (fun i => Nat.le_trans (getD_rows (m := s1.most) (by rw [hs.rows]; exact hs.len) i) hs.m256) (fun i => by rw [hs.lost]; have := hs.lostb i; omega) core hash id hh h.Bs).mono ?_
  rintro e w' ⟨rfl, ⟨rv', hR'⟩, hF⟩
  exact ⟨rfl, h.byR ⟨_, _, _, _, _, _, _, _, hR'⟩ hF⟩
theorem Two.rtake (h : Two w0 B b b' l s r w) {s1 : St} (hs : Sim s1 r K) (core : Int) :
    Calls Try.prog 19 #[.pointer (some ⟨b', 0, none⟩), .int .i64 core] w fun e w' => e = .returned (.tuple #[.int .u64 (r.take core).2.1, .int .u32 (r.take core).2.2.1, .bool (r.take core).2.2.2]) ∧ Two w0 B b b' l s (r.take core).1 w' ∧ K35 w w' := by
  obtain ⟨q, ro, rk, l', lo, lk, rv, O, R⟩ := h.r
  refine (r_take_c R (by rw [hs.n]; exact hs.n8) (fun i => Nat.le_trans (getD_rows (m := s1.most) (by rw [hs.rows]; exact hs.len) i) hs.m256) core).mono ?_
  rintro e w' ⟨rfl, ⟨rv', hR'⟩, hF⟩
  exact ⟨rfl, h.byR ⟨_, _, _, _, _, _, _, _, hR'⟩ hF⟩
theorem Two.rcores (h : Two w0 B b b' l s r w) (hn : r.n ≤ 8) (A : Option Addr) (c : Nat) (on : List Int) (hq : Raw w A on) (hlen : on.length ≤ 1000000) :
    Calls Try.prog 20 #[.pointer (some ⟨b', 0, none⟩), .slice A on.length c] w fun e w' => e = .returned (.int .i64 (r.cores on).2) ∧ Two w0 B b b' l s (r.cores on).1 w' ∧ K35 w w' := by
  obtain ⟨q, ro, rk, l', lo, lk, rv, O, R⟩ := h.r
  refine (r_cores R hn h.Bs A c on hq hlen).mono ?_
  rintro e w' ⟨rfl, ⟨O', hR'⟩, hF⟩
  exact ⟨rfl, h.byR ⟨_, _, _, _, _, _, _, _, hR'⟩ hF⟩
theorem Two.rtarget (h : Two w0 B b b' l s r w) {s1 : St} (hs : Sim s1 r K) (hash : Int) (hh : 0 ≤ hash ∧ hash ≤ 4294967295) :
    Calls Try.prog 18 #[.pointer (some ⟨b', 0, none⟩), .int .u32 hash] w fun e w' => e = .returned (.int .i64 (r.target hash)) ∧ ∃ m, w' = w.drewN m := by
  obtain ⟨q, ro, rk, l', lo, lk, rv, O, R⟩ := h.r
  have h1 := hs.on8
  have h2 := hs.n8
  have h3 := hs.n
  have h4 := hs.lastb (hash % 256).toNat
  refine r_target R hash hh (by omega) (by rw [hs.on]; exact hs.on1) (by rw [hs.on]; omega) (by omega) (fun row hr => ?_) (fun row hr => ?_)
  · rw [hs.rows] at hr; exact Nat.le_trans (hs.len row hr) hs.m256
  · rw [hs.rows] at hr; exact hs.hash row hr
end
end Go.Proofs.Ytggfjnicofgohaa.Sf
