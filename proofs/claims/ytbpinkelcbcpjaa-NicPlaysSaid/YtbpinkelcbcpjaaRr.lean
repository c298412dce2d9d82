import Derived.Test.YtbpinkelcbcpjaaPk
import Derived.Deep.RegionLaw
import Derived.Deep.CutRange
namespace Go.Proofs.Ytbpinkelcbcpjaa.Ni
open Go.RowKit Blk Go.Proofs.YtbpinkelcbcpjaaW.PrintWords
set_option linter.unusedVariables false

/-! The reference's object. -/
theorem info38 : (Try.prog.info? 38).map (fun i => (i.zero, i.size, i.bytes)) = some (some (.slice none 0 0), 1, 24) := by kernel_rfl
theorem info45 : (Try.prog.info? 45).map (fun i => (i.zero, i.size, i.bytes)) = some (some (.slice none 0 0), 1, 24) := by kernel_rfl
theorem info4 : (Try.prog.info? 4).map (fun i => (i.zero, i.size, i.bytes)) = some (some (.bool false), 1, 1) := by kernel_rfl
theorem q_blk {w : World} {base g o n k : Nat} {e : TypeId} {xs : List Value} (h : QRow w base e 1 (.slice (some ⟨g, o, none⟩) n k) n xs) (hn : 0 < n) :
    ∃ cells, Has w g cells e ∧ base ≤ g ∧ n ≤ k ∧ o + k ≤ maxLen ∧ cells.length = o + k ∧ (cells.drop o).take n = xs := by
  rcases h.2 with ⟨h0, _⟩ | ⟨g', off, cap, cur, he, hg, hh, hc, hm, hs, ht⟩
  · omega
  · injection he with ha _ hc'
    injection ha with ha
    injection ha with h1 h2
    subst h1 hc'
    rw [Nat.mul_one] at h2 ht hs
    subst h2
    exact ⟨cur.toList, hh, hg, hc, hm, by simpa using hs, by simpa using ht⟩
theorem q_of_blk {w : World} {base g o n k : Nat} {e : TypeId} {xs cells : List Value} (hh : Has w g cells e) (hg : base ≤ g) (hc : n ≤ k) (hm : o + k ≤ maxLen) (hs : cells.length = o + k) (ht : (cells.drop o).take n = xs) : QRow w base e 1 (.slice (some ⟨g, o, none⟩) n k) n xs := by
  refine ⟨?_, .inr ⟨g, o, k, cells.toArray, by rw [Nat.mul_one], hg, hh, hc, hm, by simpa using hs, by simpa using ht⟩⟩
  rw [← ht, List.length_take, List.length_drop]
  omega
theorem q_cell {w : World} {base g o n k : Nat} {e : TypeId} {xs : List Value} (h : QRow w base e 1 (.slice (some ⟨g, o, none⟩) n k) n xs) (i : Nat) (v : Value) (hv : xs[i]? = some v) : w.cell? ⟨g, o + i, none⟩ = some v ∧ w.frozen? ⟨g, o + i, none⟩ = false := by
  have hl : i < xs.length := (List.getElem?_eq_some_iff.1 hv).1
  have h1 := h.1
  obtain ⟨g', o', ha, _, hc⟩ := q_at h (by omega)
  injection ha with ha
  injection ha with e1 e2
  subst e1 e2
  exact hc i v hv
theorem q_put {w : World} {base g o n k : Nat} {e : TypeId} {xs : List Value} (h : QRow w base e 1 (.slice (some ⟨g, o, none⟩) n k) n xs) (i : Nat) (hi : i < n) (v : Value) : QRow (w.setCell ⟨g, o + i, none⟩ v) base e 1 (.slice (some ⟨g, o, none⟩) n k) n (xs.set i v) := by
  obtain ⟨cells, hh, hg, hc, hm, hs, ht⟩ := q_blk h (by omega)
  refine q_of_blk (hh.set (o + i) v) hg hc hm (by rw [List.length_set]; exact hs) ?_
  rw [List.drop_set, if_neg (by omega), show o + i - o = i by omega, List.take_set, ht]
theorem q_has {w : World} {base g o n k : Nat} {e : TypeId} {xs : List Value} (h : QRow w base e 1 (.slice (some ⟨g, o, none⟩) n k) n xs) (hn : 0 < n) : (∃ cells, Has w g cells e) ∧ base ≤ g := by
  obtain ⟨cells, hh, hg, _⟩ := q_blk h hn
  exact ⟨⟨cells, hh⟩, hg⟩
structure Rws {α : Type} (w : World) (base : Nat) (e : TypeId) (size : Nat) (f : List α → List Value) (rv : List Value) (rows : List (List α)) : Prop where
  q : ∀ (i : Nat) (v : Value) (l : List α), rv[i]? = some v → rows[i]? = some l → QRow w base e size v l.length (f l)
  ne : ∀ (i j : Nat) (v v' : Value), i ≠ j → rv[i]? = some v → rv[j]? = some v' → NeRow v v'
  vl : rv.length = rows.length
section
variable {α : Type} {w w' : World} {base : Nat} {e : TypeId} {size : Nat} {f : List α → List Value} {rv : List Value} {rows : List (List α)}
theorem Rws.keep (h : Rws w base e size f rv rows) {T : TypeId → Prop} (hk : Keeps T w w') (hT : T e) : Rws w' base e size f rv rows :=
  ⟨fun i v l h1 h2 => hk.q hT (h.q i v l h1 h2), h.ne, h.vl⟩
theorem Rws.set (h : Rws w base e size f rv rows) (i : Nat) (hi : i < rows.length) (v' : Value) (l' : List α) (hq : QRow w' base e size v' l'.length (f l'))
    (hoth : ∀ (j : Nat) (v : Value) (l : List α), j ≠ i → rv[j]? = some v → rows[j]? = some l → QRow w' base e size v l.length (f l) ∧ NeRow v v') : Rws w' base e size f (rv.set i v') (rows.set i l') := by
  have hv := h.vl
  have key : ∀ (j : Nat) (v : Value), (rv.set i v')[j]? = some v → (j = i ∧ v = v') ∨ (j ≠ i ∧ rv[j]? = some v) := fun j v hj => by
    rw [List.getElem?_set] at hj
    by_cases e2 : i = j
    · rw [if_pos e2, if_pos (by omega)] at hj
      injection hj with hj
      exact .inl ⟨e2.symm, hj.symm⟩
    · rw [if_neg e2] at hj
      exact .inr ⟨Ne.symm e2, hj⟩
  have nv : ∀ (j : Nat) (v : Value), j ≠ i → rv[j]? = some v → NeRow v v' := fun j v hj hjv => by
    have hjl : j < rows.length := by rw [← hv]; exact (List.getElem?_eq_some_iff.1 hjv).1
    exact (hoth j v _ hj hjv (List.getElem?_eq_getElem hjl)).2
  refine ⟨fun j v l h1 h2 => ?_, fun a b va vb hab h1 h2 => ?_, by rw [List.length_set, List.length_set]; exact hv⟩
  · rcases key j v h1 with ⟨rfl, rfl⟩ | ⟨hj, hjv⟩
    · rw [List.getElem?_set, if_pos rfl, if_pos hi] at h2
      injection h2 with h2
      subst h2
      exact hq
    · rw [List.getElem?_set, if_neg (Ne.symm hj)] at h2
      exact (hoth j v l hj hjv h2).1
  · rcases key a va h1 with ⟨ea, rfl⟩ | ⟨ha, hav⟩
    · rcases key b vb h2 with ⟨eb, rfl⟩ | ⟨hb, hbv⟩
      · omega
      · exact ne_symm (nv b vb hb hbv)
    · rcases key b vb h2 with ⟨eb, rfl⟩ | ⟨hb, hbv⟩
      · exact nv a va ha hav
      · exact h.ne a b va vb hab hav hbv
theorem Rws.at' (h : Rws w base e size f rv rows) (i : Nat) (hi : i < rows.length) : ∃ A c, rv[i]? = some (.slice A (rows.getD i []).length c) ∧ rows[i]? = some (rows.getD i []) ∧ QRow w base e size (.slice A (rows.getD i []).length c) (rows.getD i []).length (f (rows.getD i [])) ∧ (rows.getD i []).length ≤ c := by
  have hv := h.vl
  have e1 : rv[i]? = some (rv[i]'(by omega)) := List.getElem?_eq_getElem (by omega)
  have e2 : rows[i]? = some (rows.getD i []) := by rw [List.getD_eq_getElem?_getD, List.getElem?_eq_getElem hi]; rfl
  have hq := h.q i _ _ e1 e2
  obtain ⟨A, c, e3, hc⟩ := q_slice hq
  rw [e3] at hq e1
  exact ⟨A, c, e1, e2, hq, hc⟩
end
structure Rf where
  size : Nat
  tab : List Int
  ins : List (List Sl)
  outs : List (List ByteArray)
  armed : List Bool
  came : Int
  sent : Int
structure Rl where
  T : Value
  ib : Nat
  io : Nat
  ik : Nat
  ob : Nat
  oo : Nat
  ok : Nat
  ab : Nat
  ao : Nat
  ak : Nat
  rv : List Value
  ov : List Value
def rc (g : Rl) (r : Rf) : List Value := [.int .i64 r.size, g.T, .slice (some ⟨g.ib, g.io, none⟩) r.ins.length g.ik, .slice (some ⟨g.ob, g.oo, none⟩) r.ins.length g.ok, .slice (some ⟨g.ab, g.ao, none⟩) r.ins.length g.ak, .int .u64 r.came, .int .u64 r.sent]
structure RAt (w : World) (base b : Nat) (g : Rl) (r : Rf) : Prop where
  hb : Has w b (rc g r) 44
  ht : QRow w base 3 1 g.T 128 (r.tab.map (Value.int .i64))
  hi : QRow w base 38 1 (.slice (some ⟨g.ib, g.io, none⟩) r.ins.length g.ik) r.ins.length g.rv
  ho : QRow w base 45 1 (.slice (some ⟨g.ob, g.oo, none⟩) r.ins.length g.ok) r.ins.length g.ov
  ha : QRow w base 4 1 (.slice (some ⟨g.ab, g.ao, none⟩) r.ins.length g.ak) r.ins.length (r.armed.map Value.bool)
  ri : Rws w base 53 2 flat g.rv r.ins
  ro : Rws w base 9 1 strs g.ov r.outs
  lo : r.outs.length = r.ins.length
  la : r.armed.length = r.ins.length
  n1 : 1 ≤ r.ins.length
  n8 : r.ins.length ≤ 8
  gb : base ≤ b
/-- The reference's object, wherever its parts lie. -/
def Re (w : World) (base b : Nat) (r : Rf) : Prop := ∃ g, RAt w base b g r
/-- What a method of it turns: nothing below base, nothing of a kind that T tells. -/
structure Fk (base : Nat) (T : TypeId → Prop) (w w' : World) : Prop where
  below : Below base w w'
  kept : Keeps T w w'
theorem Fk.refl (base : Nat) (T : TypeId → Prop) (w : World) : Fk base T w w := ⟨Below.refl _ _, Keeps.refl _ _⟩
theorem Fk.trans {base : Nat} {T : TypeId → Prop} {w w1 w2 : World} (h : Fk base T w w1) (k : Fk base T w1 w2) : Fk base T w w2 := ⟨h.below.trans k.below, h.kept.trans k.kept⟩
theorem Fk.ofNone {base : Nat} {T : TypeId → Prop} {w w' : World} (h : Ch nob w w') (hb : base ≤ w.heap.size) : Fk base T w w' := ⟨h.below base hb fun _ _ => id, Keeps.ofNone h⟩
theorem Fk.set {base : Nat} {T : TypeId → Prop} {w w1 : World} (h : Fk base T w w1) (a : Addr) (v : Value) {c : List Value} {t : TypeId} (hb : Has w1 a.block c t) (hge : base ≤ a.block) (ht : ¬ T t) : Fk base T w (w1.setCell a v) :=
  ⟨h.below.setCell hge _, h.kept.set a v hb ht⟩
theorem Fk.mono {base : Nat} {T U : TypeId → Prop} {w w' : World} (h : Fk base T w w') (hu : ∀ t, U t → T t) : Fk base U w w' := ⟨h.below, h.kept.mono hu⟩
section
variable {w w' : World} {base b : Nat} {g : Rl} {r : Rf}
theorem RAt.move (h : RAt w base b g r) (hk : Keeps (fun t => t = 44 ∨ t = 3 ∨ t = 38 ∨ t = 45 ∨ t = 4 ∨ t = 53 ∨ t = 9) w w') : RAt w' base b g r :=
  ⟨hk.has (by decide) h.hb, hk.q (by decide) h.ht, hk.q (by decide) h.hi, hk.q (by decide) h.ho, hk.q (by decide) h.ha, h.ri.keep hk (by decide), h.ro.keep hk (by decide), h.lo, h.la, h.n1, h.n8, h.gb⟩
theorem RAt.still (h : RAt w base b g r) (hc : Ch nob w w') : RAt w' base b g r := h.move (Keeps.ofNone hc)
theorem RAt.low (h : RAt w base b g r) {T : TypeId → Prop} (hu : Ch (fun k => k < base) w w') : RAt w' base b g r :=
  ⟨h.hb.ch hu (by have := h.gb; omega), q_move h.ht fun k hk => hu.block k (q_lt h.ht k hk) (by have := (q_typed h.ht k hk).1; omega), q_move h.hi fun k hk => hu.block k (q_lt h.hi k hk) (by have := (q_typed h.hi k hk).1; omega),
   q_move h.ho fun k hk => hu.block k (q_lt h.ho k hk) (by have := (q_typed h.ho k hk).1; omega), q_move h.ha fun k hk => hu.block k (q_lt h.ha k hk) (by have := (q_typed h.ha k hk).1; omega),
   ⟨fun i v l h1 h2 => q_move (h.ri.q i v l h1 h2) fun k hk => hu.block k (q_lt (h.ri.q i v l h1 h2) k hk) (by have := (q_typed (h.ri.q i v l h1 h2) k hk).1; omega), h.ri.ne, h.ri.vl⟩,
   ⟨fun i v l h1 h2 => q_move (h.ro.q i v l h1 h2) fun k hk => hu.block k (q_lt (h.ro.q i v l h1 h2) k hk) (by have := (q_typed (h.ro.q i v l h1 h2) k hk).1; omega), h.ro.ne, h.ro.vl⟩, h.lo, h.la, h.n1, h.n8, h.gb⟩
theorem RAt.c2 (h : RAt w base b g r) : w.cell? ⟨b, 2, none⟩ = some (.slice (some ⟨g.ib, g.io, none⟩) r.ins.length g.ik) := h.hb.cell rfl
theorem RAt.c3 (h : RAt w base b g r) : w.cell? ⟨b, 3, none⟩ = some (.slice (some ⟨g.ob, g.oo, none⟩) r.ins.length g.ok) := h.hb.cell rfl
theorem RAt.c4 (h : RAt w base b g r) : w.cell? ⟨b, 4, none⟩ = some (.slice (some ⟨g.ab, g.ao, none⟩) r.ins.length g.ak) := h.hb.cell rfl
theorem RAt.setIn (h : RAt w base b g r) (i : Nat) (hi : i < r.ins.length) (v' : Value) (l' : List Sl) (hk : Keeps (fun t => t = 44 ∨ t = 3 ∨ t = 38 ∨ t = 45 ∨ t = 4 ∨ t = 9) w w') (hr : Rws w' base 53 2 flat (g.rv.set i v') (r.ins.set i l')) :
    RAt (w'.setCell ⟨g.ib, g.io + i, none⟩ v') base b { g with rv := g.rv.set i v' } { r with ins := r.ins.set i l' } := by
  have hl : (r.ins.set i l').length = r.ins.length := List.length_set
  have h2 := hk.q (by decide) h.hi
  obtain ⟨⟨cells, hc⟩, hge⟩ := q_has h2 h.n1
  have hks : Keeps (fun t => t ≠ 38) w' (w'.setCell ⟨g.ib, g.io + i, none⟩ v') := (Keeps.refl _ _).set _ _ hc (by simp)
  refine ⟨?_, hks.q (by decide) (hk.q (by decide) h.ht), ?_, ?_, ?_, hr.keep hks (by decide), (h.ro.keep hk (by decide)).keep hks (by decide), ?_, ?_, ?_, ?_, h.gb⟩
  · have := hks.has (by decide) (hk.has (by decide) h.hb)
    unfold rc at this ⊢
    dsimp only
    rw [hl]
    exact this
  · dsimp only
    rw [hl]
    exact q_put h2 i hi v'
  · dsimp only
    rw [hl]
    exact hks.q (by decide) (hk.q (by decide) h.ho)
  · dsimp only
    rw [hl]
    exact hks.q (by decide) (hk.q (by decide) h.ha)
  · dsimp only; rw [hl]; exact h.lo
  · dsimp only; rw [hl]; exact h.la
  · dsimp only; rw [hl]; exact h.n1
  · dsimp only; rw [hl]; exact h.n8
theorem RAt.setOut (h : RAt w base b g r) (i : Nat) (hi : i < r.ins.length) (v' : Value) (l' : List ByteArray) (hk : Keeps (fun t => t = 44 ∨ t = 3 ∨ t = 38 ∨ t = 45 ∨ t = 4 ∨ t = 53) w w') (hr : Rws w' base 9 1 strs (g.ov.set i v') (r.outs.set i l')) :
    RAt (w'.setCell ⟨g.ob, g.oo + i, none⟩ v') base b { g with ov := g.ov.set i v' } { r with outs := r.outs.set i l' } := by
  have h2 := hk.q (by decide) h.ho
  obtain ⟨⟨cells, hc⟩, hge⟩ := q_has h2 h.n1
  have hks : Keeps (fun t => t ≠ 45) w' (w'.setCell ⟨g.ob, g.oo + i, none⟩ v') := (Keeps.refl _ _).set _ _ hc (by simp)
  refine ⟨hks.has (by decide) (hk.has (by decide) h.hb), hks.q (by decide) (hk.q (by decide) h.ht), hks.q (by decide) (hk.q (by decide) h.hi), q_put h2 i hi v', hks.q (by decide) (hk.q (by decide) h.ha), (h.ri.keep hk (by decide)).keep hks (by decide), hr.keep hks (by decide), ?_, h.la, h.n1, h.n8, h.gb⟩
  show (r.outs.set i l').length = _
  rw [List.length_set]
  exact h.lo
theorem RAt.setArm (h : RAt w base b g r) (i : Nat) (hi : i < r.ins.length) (v : Bool) : RAt (w.setCell ⟨g.ab, g.ao + i, none⟩ (.bool v)) base b g { r with armed := r.armed.set i v } := by
  obtain ⟨⟨cells, hc⟩, hge⟩ := q_has h.ha h.n1
  have hks : Keeps (fun t => t ≠ 4) w (w.setCell ⟨g.ab, g.ao + i, none⟩ (.bool v)) := (Keeps.refl _ _).set _ _ hc (by simp)
  refine ⟨hks.has (by decide) h.hb, hks.q (by decide) h.ht, hks.q (by decide) h.hi, hks.q (by decide) h.ho, ?_, h.ri.keep hks (by decide), h.ro.keep hks (by decide), h.lo, by show (r.armed.set i v).length = _; rw [List.length_set]; exact h.la, h.n1, h.n8, h.gb⟩
  have := q_put h.ha i hi (.bool v)
  rw [← List.map_set] at this
  exact this
theorem RAt.setCame (h : RAt w base b g r) (v : Int) : RAt (w.setCell ⟨b, 5, none⟩ (.int .u64 v)) base b g { r with came := v } := by
  have hks : Keeps (fun t => t ≠ 44) w (w.setCell ⟨b, 5, none⟩ (.int .u64 v)) := (Keeps.refl _ _).set _ _ h.hb (by simp)
  exact ⟨h.hb.set 5 _, hks.q (by decide) h.ht, hks.q (by decide) h.hi, hks.q (by decide) h.ho, hks.q (by decide) h.ha, h.ri.keep hks (by decide), h.ro.keep hks (by decide), h.lo, h.la, h.n1, h.n8, h.gb⟩
theorem RAt.setSent (h : RAt w base b g r) (v : Int) : RAt (w.setCell ⟨b, 6, none⟩ (.int .u64 v)) base b g { r with sent := v } := by
  have hks : Keeps (fun t => t ≠ 44) w (w.setCell ⟨b, 6, none⟩ (.int .u64 v)) := (Keeps.refl _ _).set _ _ h.hb (by simp)
  exact ⟨h.hb.set 6 _, hks.q (by decide) h.ht, hks.q (by decide) h.hi, hks.q (by decide) h.ho, hks.q (by decide) h.ha, h.ri.keep hks (by decide), h.ro.keep hks (by decide), h.lo, h.la, h.n1, h.n8, h.gb⟩
theorem RAt.setTab (h : RAt w base b g r) (T : Value) (l : List Int) (hq : QRow w base 3 1 T 128 (l.map (Value.int .i64))) : RAt (w.setCell ⟨b, 1, none⟩ T) base b { g with T := T } { r with tab := l } := by
  have hks : Keeps (fun t => t ≠ 44) w (w.setCell ⟨b, 1, none⟩ T) := (Keeps.refl _ _).set _ _ h.hb (by simp)
  exact ⟨h.hb.set 1 _, hks.q (by decide) hq, hks.q (by decide) h.hi, hks.q (by decide) h.ho, hks.q (by decide) h.ha, h.ri.keep hks (by decide), h.ro.keep hks (by decide), h.lo, h.la, h.n1, h.n8, h.gb⟩
/-- A row that is cut at its front. -/
theorem Rws.cutAt {α : Type} {e : TypeId} {size : Nat} {f : List α → List Value} {rv : List Value} {rows : List (List α)} (h : Rws w base e size f rv rows) (i : Nat) (hi : i < rows.length) (A : Option Addr) (c m k : Nat) (hv : rv[i]? = some (.slice A m c)) (v' : Value) (l' : List α)
    (hq : QRow w base e size v' l'.length (f l')) (hown : ∀ k, v'.ownBlock = some k → (Value.slice A m c).ownBlock = some k) : Rws w base e size f (rv.set i v') (rows.set i l') :=
  h.set i hi v' l' hq fun j v l hj hjv hjl => ⟨h.q j v l hjv hjl, fun k hk hk' => h.ne j i v _ hj hjv hv k hk (hown k hk')⟩
set_option maxHeartbeats 1000000 in
theorem r_is (h : RAt w base b g r) (x : Int) : Calls Try.prog 14 #[.pointer (some ⟨b, 0, none⟩), .int .i64 x] w fun e w' => e = .returned (.bool (decide (0 ≤ x ∧ x < r.ins.length))) ∧ w = w' := by
  have c2 := h.c2
  have hn8 := h.n8
  clear h
  by_cases h1 : 0 ≤ x
  · by_cases h2 : x < r.ins.length
    · rw [decide_eq_true ⟨h1, h2⟩]
      go_enter Try.func14, Try.ntmps14
      go_wp2
      go_ret
      exact ⟨by simp; first | done | omega, rfl⟩
    · rw [decide_eq_false (fun hh => h2 hh.2)]
      go_enter Try.func14, Try.ntmps14
      go_wp2
      go_ret
      exact ⟨by simp; first | done | omega, rfl⟩
  · rw [decide_eq_false (fun hh => h1 hh.1)]
    go_enter Try.func14, Try.ntmps14
    go_wp2
    go_ret
    exact ⟨by simp; first | done | omega, rfl⟩
end
end Go.Proofs.Ytbpinkelcbcpjaa.Ni
