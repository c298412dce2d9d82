import Derived.Test.YtbpinkelcbcpjaaNa
namespace Go.Proofs.Ytbpinkelcbcpjaa.Ni
open Go.RowKit Blk Go.Proofs.YtbpinkelcbcpjaaW.PrintWords
set_option linter.unusedVariables false

theorem QAt.ch {B : Nat → Prop} {w w' : World} {size qb ib ob : Nat} {q : Qu} (h : QAt w size qb ib ob q) (hk : Ch B w w') (h1 : ¬ B qb) (h2 : ¬ B ib) (h3 : ¬ B ob) : QAt w' size qb ib ob q :=
  ⟨h.hq.ch hk h1, h.hi.ch hk h2, h.ho.ch hk h3, h.la, h.lo, h.fa, h.na, h.fo, h.no⟩
def Qu.put (size : Nat) (q : Qu) (x : Sl) : Qu := { q with a := q.a.set ((q.af + q.an) % size) x, an := q.an + 1 }
def Qu.send (size : Nat) (q : Qu) (x : ByteArray) : Qu := { q with o := q.o.set ((q.of + q.on) % size) x, on := q.on + 1 }
def nob : Nat → Prop := fun _ => False
section
variable {w : World} {size qb ib ob : Nat} {q : Qu}
theorem QAt.setA (h : QAt w size qb ib ob q) (i : Nat) (hi : i < size) (x : Sl) : QAt ((w.setCell ⟨ib, i * 2, none⟩ (.int .u32 x.1)).setCell ⟨ib, i * 2 + 1, none⟩ (.string x.2)) size qb ib ob { q with a := q.a.set i x } :=
  have h1 := has_ne h.hq h.hi (by decide)
  have h2 := has_ne h.ho h.hi (by decide)
  ⟨(h.hq.setOther _ _ h1).setOther _ _ h1, by
    have := (h.hi.set (i * 2) (.int .u32 x.1)).set (i * 2 + 1) (.string x.2)
    rw [flat_set _ _ _ (by rw [h.la]; exact hi)] at this
    exact this, (h.ho.setOther _ _ h2).setOther _ _ h2, by show (q.a.set i x).length = _; rw [List.length_set]; exact h.la, h.lo, h.fa, h.na, h.fo, h.no⟩
theorem QAt.setN (h : QAt w size qb ib ob q) (n : Nat) (hn : n ≤ size) : QAt (w.setCell ⟨qb, 2, none⟩ (.int .i64 n)) size qb ib ob { q with an := n } :=
  have h1 := has_ne h.hi h.hq (by decide)
  have h2 := has_ne h.ho h.hq (by decide)
  ⟨h.hq.set 2 (.int .i64 n), h.hi.setOther _ _ h1, h.ho.setOther _ _ h2, h.la, h.lo, h.fa, hn, h.fo, h.no⟩
theorem QAt.setO (h : QAt w size qb ib ob q) (i : Nat) (hi : i < size) (x : ByteArray) : QAt (w.setCell ⟨ob, i, none⟩ (.string x)) size qb ib ob { q with o := q.o.set i x } :=
  have h1 := has_ne h.hq h.ho (by decide)
  have h2 := has_ne h.hi h.ho (by decide)
  ⟨h.hq.setOther _ _ h1, h.hi.setOther _ _ h2, by
    have := h.ho.set i (.string x)
    show Has _ ob (strs (q.o.set i x)) 9
    unfold strs
    rw [List.map_set]
    exact this, h.la, by show (q.o.set i x).length = _; rw [List.length_set]; exact h.lo, h.fa, h.na, h.fo, h.no⟩
theorem QAt.setM (h : QAt w size qb ib ob q) (n : Nat) (hn : n ≤ size) : QAt (w.setCell ⟨qb, 5, none⟩ (.int .i64 n)) size qb ib ob { q with on := n } :=
  have h1 := has_ne h.hi h.hq (by decide)
  have h2 := has_ne h.ho h.hq (by decide)
  ⟨h.hq.set 5 (.int .i64 n), h.hi.setOther _ _ h1, h.ho.setOther _ _ h2, h.la, h.lo, h.fa, h.na, h.fo, hn⟩
theorem QAt.cells (h : QAt w size qb ib ob q) : w.cell? ⟨qb, 0, none⟩ = some (.slice (some ⟨ib, 0, none⟩) size size) ∧ w.cell? ⟨qb, 1, none⟩ = some (.int .i64 q.af) ∧ w.cell? ⟨qb, 2, none⟩ = some (.int .i64 q.an) ∧
    w.cell? ⟨qb, 3, none⟩ = some (.slice (some ⟨ob, 0, none⟩) size size) ∧ w.cell? ⟨qb, 4, none⟩ = some (.int .i64 q.of) ∧ w.cell? ⟨qb, 5, none⟩ = some (.int .i64 q.on) ∧ w.cell? ⟨qb, 6, none⟩ = some (.bool q.armed) :=
  ⟨h.hq.cell rfl, h.hq.cell rfl, h.hq.cell rfl, h.hq.cell rfl, h.hq.cell rfl, h.hq.cell rfl, h.hq.cell rfl⟩
set_option maxHeartbeats 4000000 in
/-- There is no room. -/
theorem put_no (h : QAt w size qb ib ob q) (x : Sl) (hs : size ≤ 256) (hn : q.an = size) :
    Calls Try.prog 34 #[.pointer (some ⟨qb, 0, none⟩), .agg #[.int .u32 x.1, .string x.2]] w fun e w' => e = .returned (.bool false) ∧ Ch nob w w' := by
  have hl := h.hq.lt
  have h' := h.alloc (.cells #[.int .u32 x.1, .string x.2] 53)
  have hC := Lib.hid (((Ch.refl nob w).alloc (.cells #[.int .u32 x.1, .string x.2] 53)))
  obtain ⟨c0, c1, c2, _⟩ := h'.cells
  rw [hn] at c2
  obtain ⟨W1, hW1⟩ : ∃ W1, W1 = w.alloc (.cells #[.int .u32 x.1, .string x.2] 53) := ⟨_, rfl⟩
  rw [← hW1] at c0 c1 c2 hC
  clear h h'
  go_enter Try.func34, Try.ntmps34
  go_wp2
  rw [← hW1]
  clear hW1
  go_quiet (fail)
  go_wp2
  go_ret
  exact ⟨rfl, hC.out.drewN _⟩
set_option maxHeartbeats 4000000 in
/-- There is room. -/
theorem put_ok (h : QAt w size qb ib ob q) (x : Sl) (hs : size ≤ 256) (hn : q.an < size) :
    Calls Try.prog 34 #[.pointer (some ⟨qb, 0, none⟩), .agg #[.int .u32 x.1, .string x.2]] w fun e w' => e = .returned (.bool true) ∧ QAt w' size qb ib ob (q.put size x) ∧ Ch (fun k => k = qb ∨ k = ib) w w' := by
  have h' := h.alloc (.cells #[.int .u32 x.1, .string x.2] 53)
  have hX := Has.new w [.int .u32 x.1, .string x.2] 53
  have hql := h.hq.lt
  have hil := h.hi.lt
  have hC := Lib.hid ((Ch.refl (fun k => k = qb ∨ k = ib) w).alloc (.cells #[.int .u32 x.1, .string x.2] 53))
  obtain ⟨c0, c1, c2, _⟩ := h'.cells
  obtain ⟨W1, hW1⟩ : ∃ W1, W1 = w.alloc (.cells #[.int .u32 x.1, .string x.2] 53) := ⟨_, rfl⟩
  rw [← hW1] at c0 c1 c2 hC h'
  have hX' : Has W1 w.heap.size [.int .u32 x.1, .string x.2] 53 := by rw [hW1]; exact Has.new w [.int .u32 x.1, .string x.2] 53
  clear hX
  obtain ⟨i, hi⟩ : ∃ i, i = (q.af + q.an) % size := ⟨_, rfl⟩
  have hs0 := h.fa
  have hil2 : i < size := by rw [hi]; exact Nat.mod_lt _ (by omega)
  have hm : ((q.af : Int) + (q.an : Int)).tmod (size : Int) = (i : Int) := by
    rw [hi, ← Int.natCast_add, Int.tmod_eq_emod_of_nonneg (by omega)]
    rfl
  have hne : (size : Int) ≠ 0 := by omega
  obtain ⟨⟨ph, pt⟩, hp⟩ : ∃ p, q.a[i]? = some p := ⟨_, List.getElem?_eq_getElem (by rw [h.la]; exact hil2)⟩
  obtain ⟨d0, d1⟩ := flat_at q.a i _ hp
  have D0 := Lib.hid d0
  have D1 := Lib.hid d1
  have e1 : ((q.an : Int) == (size : Int)) = false := beq_eq_false_iff_ne.2 (by omega)
  have HH := Lib.hid h'
  have HI := Lib.hid hi
  have HX := Lib.hid hX'
  have hqi : qb ≠ ib := has_ne h.hq h.hi (by decide)
  have hxi : w.heap.size ≠ ib := by omega
  have hxq : w.heap.size ≠ qb := by omega
  obtain ⟨kx, hkx⟩ : ∃ kx, kx = w.heap.size := ⟨_, rfl⟩
  rw [← hkx] at HX hxi hxq
  have hs00 : size ≠ 0 := by omega
  have hwr : IntKind.i64.wrap ((q.af : Int) + (q.an : Int)) = (q.af : Int) + (q.an : Int) := by
    have := h.na
    rw [IntKind.wrap_i64]
    omega
  have HL := Lib.hid hql
  have HL2 := Lib.hid hil
  clear h h' hp d0 d1 hi hX' hql hil
  go_enter Try.func34, Try.ntmps34
  go_wp2
  rw [← hW1, ← hkx]
  clear hW1 hkx
  go_quiet (fail)
  go_wp2
  clear c0 c1 c2
  generalize hW2 : World.drewN _ _ = W2
  have HH2 : QAt W2 size qb ib ob q := by rw [← hW2]; exact HH.out.drewN _
  have HX2 : Has W2 kx [.int .u32 x.1, .string x.2] 53 := by rw [← hW2]; exact HX.out
  have HC2 : Hid (Ch (fun k => k = qb ∨ k = ib) w W2) := Lib.hid (by rw [← hW2]; exact hC.out.drewN _)
  clear hW2 HH HX hC
  obtain ⟨c0, c1, c2, _⟩ := HH2.cells
  have x0 : W2.cell? ⟨kx, 0, none⟩ = some (.int .u32 x.1) := HX2.cell rfl
  have x1 : W2.cell? ⟨kx, 1, none⟩ = some (.string x.2) := HX2.cell rfl
  have y0 : W2.cell? ⟨ib, i * 2, none⟩ = some (.int .u32 ph) := HH2.hi.cell D0.out
  have y1 : W2.cell? ⟨ib, i * 2 + 1, none⟩ = some (.string pt) := HH2.hi.cell D1.out
  have f0 := HH2.hi.free (i * 2)
  have f1 := HH2.hi.free (i * 2 + 1)
  have g2 := HH2.hq.free 2
  have HH := Lib.hid HH2
  clear HH2 HX2
  go_region
  all_goals
    clear c0 c1 c2 x0 x1 y0 y1 f0 f1
    generalize hW3 : World.setCell _ _ _ = W3
    have HH3 : QAt W3.drew size qb ib ob { q with a := q.a.set i x } := by rw [← hW3]; exact (HH.out.setA i hil2 x).drew
    have HC3 : Hid (Ch (fun k => k = qb ∨ k = ib) w W3.drew) := Lib.hid (by rw [← hW3]; exact ((HC2.out.set ⟨ib, i * 2, none⟩ _ (.inl (.inr rfl))).set ⟨ib, i * 2 + 1, none⟩ _ (.inl (.inr rfl))).drew)
    clear hW3 HH HC2
    obtain ⟨_, _, c2, _⟩ := HH3.cells
    have g2 := HH3.hq.free 2
    have HR := Lib.hid (HH3.setN (q.an + 1) (by show q.an + 1 ≤ size; omega))
    have HS := Lib.hid (HC3.out.set ⟨qb, 2, none⟩ (.int .i64 (q.an + 1 : Nat)) (.inl (.inl rfl)))
    clear HH3 HC3
    rw [HI.out] at HR
    go_wp2
    go_ret
    exact ⟨rfl, HR.out, HS.out⟩
set_option maxHeartbeats 4000000 in
/-- The other ring: there is no room. -/
theorem send_no (h : QAt w size qb ib ob q) (x : ByteArray) (hs : size ≤ 256) (hn : q.on = size) :
    Calls Try.prog 37 #[.pointer (some ⟨qb, 3, none⟩), .string x] w fun e w' => e = .returned (.bool false) ∧ Ch nob w w' := by
  have hC := Lib.hid (Ch.refl nob w)
  obtain ⟨_, _, _, c0, c1, c2, _⟩ := h.cells
  rw [hn] at c2
  clear h
  go_enter Try.func37, Try.ntmps37
  go_wp2
  go_quiet (fail)
  go_wp2
  go_ret
  exact ⟨rfl, hC.out.drewN _⟩
set_option maxHeartbeats 4000000 in
/-- The other ring: there is room. -/
theorem send_ok (h : QAt w size qb ib ob q) (x : ByteArray) (hs : size ≤ 256) (hn : q.on < size) :
    Calls Try.prog 37 #[.pointer (some ⟨qb, 3, none⟩), .string x] w fun e w' => e = .returned (.bool true) ∧ QAt w' size qb ib ob (q.send size x) ∧ Ch (fun k => k = qb ∨ k = ob) w w' := by
  have hC := Lib.hid (Ch.refl (fun k => k = qb ∨ k = ob) w)
  obtain ⟨_, _, _, c0, c1, c2, _⟩ := h.cells
  obtain ⟨i, hi⟩ : ∃ i, i = (q.of + q.on) % size := ⟨_, rfl⟩
  have hs0 := h.fo
  have hil2 : i < size := by rw [hi]; exact Nat.mod_lt _ (by omega)
  have hm : ((q.of : Int) + (q.on : Int)).tmod (size : Int) = (i : Int) := by
    rw [hi, ← Int.natCast_add, Int.tmod_eq_emod_of_nonneg (by omega)]
    rfl
  have hne : (size : Int) ≠ 0 := by omega
  obtain ⟨pt, hp⟩ : ∃ p, q.o[i]? = some p := ⟨_, List.getElem?_eq_getElem (by rw [h.lo]; exact hil2)⟩
  have D0 : Hid ((strs q.o)[i]? = some (.string pt)) := Lib.hid (by unfold strs; rw [List.getElem?_map, hp]; rfl)
  have e1 : ((q.on : Int) == (size : Int)) = false := beq_eq_false_iff_ne.2 (by omega)
  have HH := Lib.hid h
  have HI := Lib.hid hi
  have hs00 : size ≠ 0 := by omega
  have hwr : IntKind.i64.wrap ((q.of : Int) + (q.on : Int)) = (q.of : Int) + (q.on : Int) := by
    have := h.no
    rw [IntKind.wrap_i64]
    omega
  clear h hp hi
  go_enter Try.func37, Try.ntmps37
  go_wp2
  go_quiet (fail)
  go_wp2
  clear c0 c1 c2
  generalize hW2 : World.drewN _ _ = W2
  have HH2 : QAt W2 size qb ib ob q := by rw [← hW2]; exact HH.out.drewN _
  have HC2 : Hid (Ch (fun k => k = qb ∨ k = ob) w W2) := Lib.hid (by rw [← hW2]; exact hC.out.drewN _)
  clear hW2 HH hC
  obtain ⟨_, _, _, c0, c1, c2, _⟩ := HH2.cells
  have y0 : W2.cell? ⟨ob, i, none⟩ = some (.string pt) := HH2.ho.cell D0.out
  have f0 := HH2.ho.free i
  have HH := Lib.hid HH2
  clear HH2
  go_region
  all_goals
    clear c0 c1 c2 y0 f0
    generalize hW3 : World.setCell _ _ _ = W3
    have HH3 : QAt W3.drew size qb ib ob { q with o := q.o.set i x } := by rw [← hW3]; exact (HH.out.setO i hil2 x).drew
    have HC3 : Hid (Ch (fun k => k = qb ∨ k = ob) w W3.drew) := Lib.hid (by rw [← hW3]; exact (HC2.out.set ⟨ob, i, none⟩ _ (.inl (.inr rfl))).drew)
    clear hW3 HH HC2
    obtain ⟨_, _, _, _, _, c2, _⟩ := HH3.cells
    have g2 := HH3.hq.free 5
    have HR := Lib.hid (HH3.setM (q.on + 1) (by show q.on + 1 ≤ size; omega))
    have HS := Lib.hid (HC3.out.set ⟨qb, 5, none⟩ (.int .i64 (q.on + 1 : Nat)) (.inl (.inl rfl)))
    clear HH3 HC3
    rw [HI.out] at HR
    go_wp2
    go_ret
    exact ⟨rfl, HR.out, HS.out⟩
end
end Go.Proofs.Ytbpinkelcbcpjaa.Ni
