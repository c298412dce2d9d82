import Derived.Test.YtfdbmpohegdpjaaRto7
namespace Go.Proofs.Ytfdbmpohegdpjaa.Rto
open Go.RowKit Blk
set_option linter.unusedVariables false

/-- Two objects of the call's own: the program's and the reference's. -/
structure Two (w0 : World) (b c : Nat) (s r : St) (w : World) : Prop where
  below : Below w0.heap.size w0 w
  lies : At w b s
  rlies : RAt w c r
  base : w0.heap.size ≤ b
  rbase : w0.heap.size ≤ c
  ne : b ≠ c

theorem below_ch {n b : Nat} {w0 w w2 : World} (h : Below n w0 w) (hn : n ≤ w0.heap.size) (hb : n ≤ b) (k : Ch (· = b) w w2) : Below n w0 w2 :=
  ⟨k.os.trans h.os, k.tape.trans h.tape, k.output.trans h.output, Nat.le_trans h.size k.size, fun i hi => by
    rw [k.block i (Nat.lt_of_lt_of_le hi (Nat.le_trans hn h.size)) (by omega)]; exact h.block i hi⟩
theorem Two.one {w0 w w2 : World} {b c : Nat} {s r s2 : St} (h : Two w0 b c s r w) (hA : At w2 b s2) (k : Ch (· = b) w w2) : Two w0 b c s2 r w2 :=
  ⟨below_ch h.below (Nat.le_refl _) h.base k, hA, Has.ch h.rlies k (fun e => h.ne e.symm), h.base, h.rbase, h.ne⟩
theorem Two.two {w0 w w2 : World} {b c : Nat} {s r r2 : St} (h : Two w0 b c s r w) (hA : RAt w2 c r2) (k : Ch (· = c) w w2) : Two w0 b c s r2 w2 :=
  ⟨below_ch h.below (Nat.le_refl _) h.rbase k, Has.ch h.lies k h.ne, hA, h.base, h.rbase, h.ne⟩
theorem Two.same {w0 w w2 : World} {b c : Nat} {s r : St} (h : Two w0 b c s r w) (k : Same w w2) : Two w0 b c s r w2 :=
  ⟨⟨k.os.trans h.below.os, k.tape.trans h.below.tape, k.output.trans h.below.output, by rw [k.heap]; exact h.below.size, fun i hi => by rw [k.heap]; exact h.below.block i hi⟩, h.lies.same k, Has.same h.rlies k, h.base, h.rbase, h.ne⟩

theorem late2 {w0 w : World} {b c : Nat} {s r : St} (h : Two w0 b c s r w) (ho : s.Ok) (hb : s.bk < 1000000) :
    Calls Try.prog 9 #[.pointer (some ⟨b, 0, none⟩)] w fun e w' => e = .returned (.tuple #[]) ∧ Two w0 b c s.late r w' := by
  refine (late_k s b w h.lies ho hb).mono ?_
  rintro e w' ⟨rfl, hA, k⟩
  exact ⟨rfl, h.one hA k⟩
theorem rlate2 {w0 w : World} {b c : Nat} {s r : St} (h : Two w0 b c s r w) (ho : r.Ok) (hb : r.bk < 1000000) :
    Calls Try.prog 10 #[.pointer (some ⟨c, 0, none⟩)] w fun e w' => e = .returned (.tuple #[]) ∧ Two w0 b c s r.late w' := by
  refine (rlate_k r c w h.rlies ho hb).mono ?_
  rintro e w' ⟨rfl, hA, k⟩
  exact ⟨rfl, h.two hA k⟩
theorem measure2 {w0 w : World} {b c : Nat} {s r : St} (t : Int) (h : Two w0 b c s r w) (ho : s.Ok) :
    Calls Try.prog 11 #[.pointer (some ⟨b, 0, none⟩), .int .i64 t] w fun e w' => e = .returned (.tuple #[]) ∧ Two w0 b c (s.measure t) r w' := by
  refine (measure_k s b t w h.lies ho).mono ?_
  rintro e w' ⟨rfl, hA, k⟩
  exact ⟨rfl, h.one hA k⟩
theorem rmeasure2 {w0 w : World} {b c : Nat} {s r : St} (t : Int) (h : Two w0 b c s r w) (ho : r.Ok) :
    Calls Try.prog 12 #[.pointer (some ⟨c, 0, none⟩), .int .i64 t] w fun e w' => e = .returned (.tuple #[]) ∧ Two w0 b c s (r.measure t) w' := by
  refine (rmeasure_k r c t w h.rlies ho).mono ?_
  rintro e w' ⟨rfl, hA, k⟩
  exact ⟨rfl, h.two hA k⟩
theorem smooth2 {w0 w : World} {b c : Nat} {s r : St} (h : Two w0 b c s r w) (ho : s.Ok) :
    Calls Try.prog 13 #[.pointer (some ⟨b, 0, none⟩)] w fun e w' => e = .returned (.tuple #[.int .i64 (s.m / 8), .int .i64 (s.o / 4)]) ∧ Two w0 b c s r w' := by
  refine (smooth_k s b w h.lies ho).mono ?_
  rintro e w' ⟨rfl, k⟩
  exact ⟨rfl, h.same k⟩
theorem backs_q (s : St) (b : Nat) (w : World) (h : At w b s) :
    Calls Try.prog 16 #[.pointer (some ⟨b, 0, none⟩)] w fun e w' => e = .returned (.int .i64 s.bk) ∧ ∃ n, w' = w.drewN n := by
  refine (backs_k s b w h).mono ?_
  rintro e w' ⟨rfl, rfl⟩
  exact ⟨rfl, 0, rfl⟩

set_option maxHeartbeats 4000000 in
set_option maxRecDepth 100000 in
theorem plays_k (a : Option Addr) (len cap : Nat) (zs : List Int) (w : World) (hr : IsRow .i64 w a len cap zs) (hlen : len ≤ 9223372036854775807) :
    Calls Try.prog 3 #[.slice a len cap] w fun e w' => e = .returned (.bool true) ∧ Below w.heap.size w w' := by
  by_cases c0 : 300 < len
  · go_enter Try.func3, Try.ntmps3
    go_wp2_with fail
    refine (alive_k w w (Below.refl _ _)).mono ?_
    rintro e w1 ⟨rfl, hb⟩
    go_wp2
    go_ret
    exact ⟨rfl, hb⟩
  have HR := Lib.hid (row_at hr)
  clear hr hlen
  go_enter Try.func3, Try.ntmps3
  go_wp2_with fail
  refine (new_l w w (Below.refl _ _)).mono ?_
  rintro e w1 ⟨rfl, HL⟩
  go_wp2
  have HT : Two w w.heap.size w1.heap.size St.zero St.zero (w1.alloc (.cells St.zero.cells.toArray 28)) :=
    ⟨HL.below.alloc HL.below.size _, Has.alloc HL.lies _, Has.new _ _ _, Nat.le_refl _, HL.below.size, Nat.ne_of_lt (Has.lt HL.lies)⟩
  clear HL
  generalize w.heap.size = b at HT ⊢
  generalize w1.heap.size = c at HT ⊢
  go_loopw [5] (fun vi wr => ∃ (k : Nat) (s : St), k ≤ len ∧ vi = .int .i64 k ∧ Two w b c s s wr ∧ s.Ok ∧ s.bk ≤ k) (fun vi _ => len - (intOf vi).toNat)
  case atStart => exact ⟨0, St.zero, Nat.zero_le _, rfl, HT, St.Ok.zero, by decide⟩
  case round =>
    clear HT
    obtain ⟨k, s, hk, rfl, HL, ho, hbk⟩ := hrel
    by_cases hlt : k < len
    · obtain ⟨bb, off, ea, hcell, _⟩ := HR.out.resolve_left (by omega)
      subst ea
      obtain ⟨x, hx⟩ : ∃ x, zs.getD k 0 = x := ⟨_, rfl⟩
      have hck0 := hcell k hlt
      rw [hx] at hck0
      have HC := Lib.hid hck0
      have hck := cell_later (n := 0) HL.below hck0
      clear hcell hx hck0
      by_cases c1 : x < 0
      · go_wp2_with fail
        refine (late2 HL ho (by omega)).mono ?_
        rintro e w2 ⟨rfl, HL2⟩
        clear HL hck
        have HL := HL2
        clear HL2
        go_wp2_with fail
        refine (rlate2 HL ho (by omega)).mono ?_
        rintro e w3 ⟨rfl, HL2⟩
        clear HL
        have HL := HL2
        clear HL2
        have hck := cell_later (n := 0) HL.below HC.out
        have ho' := late_ok s ho (by omega)
        have hbk' : s.late.bk ≤ (k : Int) + 1 := by show s.bk + 1 ≤ _; omega
        generalize s.late = s' at *
        clear ho hbk
        have ho := ho'
        go_wp2_with fail
        refine (measure2 _ HL ho).mono ?_
        rintro e w2 ⟨rfl, HL2⟩
        clear HL hck
        have HL := HL2
        clear HL2
        have hck := cell_later (n := 0) HL.below HC.out
        go_wp2_with fail
        refine (rmeasure2 _ HL ho).mono ?_
        rintro e w3 ⟨rfl, HL2⟩
        clear HL
        have HL := HL2
        clear HL2
        have ho2 := measure_ok s' ho x
        have hk2 := Lib.hid (show (s'.measure x).bk ≤ ((k + 1 : Nat) : Int) by rw [measure_bk]; split <;> omega)
        generalize s'.measure x = s2 at *
        clear hck
        have o2 := ho2
        have m0 := ho2.m0
        have o0 := ho2.o0
        have m1 := ho2.m1
        have o1 := ho2.o1
        clear ho2
        go_wp2_with fail
        refine (smooth2 HL o2).mono ?_
        clear HL
        rintro e w4 ⟨rfl, HL⟩
        have h1 := HL.lies
        have h2 := HL.rlies
        have d0 : w4.cell? ⟨c, 0, none⟩ = some (.int .i64 s2.m) := Has.cell h2 rfl
        have d1 : w4.cell? ⟨c, 1, none⟩ = some (.int .i64 s2.o) := Has.cell h2 rfl
        have d3 : w4.cell? ⟨c, 3, none⟩ = some (.int .i64 s2.bk) := Has.cell h2 rfl
        have H1 := Lib.hid h1
        have H2 := Lib.hid h2
        have HL2 := Lib.hid HL
        clear h1 h2 HL
        go_wp2
        go_quiet ((first | (go_at_call 14; exact Calls.quiet_of (time_q s2 b _ H1.out o2)) | (go_at_call 15; exact Calls.quiet_of (rtime_q s2 c _ H2.out o2)) | (go_at_call 16; exact Calls.quiet_of (backs_q s2 b _ H1.out))))
        go_wp2
        go_roundw
        case rel => exact ⟨k + 1, s2, by omega, by go_num, HL2.out.same (same_drewN _ _), o2, hk2.out⟩
        case measure => simp [intOf]; omega
      · skip
        go_wp2_with fail
        refine (measure2 _ HL ho).mono ?_
        rintro e w2 ⟨rfl, HL2⟩
        clear HL hck
        have HL := HL2
        clear HL2
        have hck := cell_later (n := 0) HL.below HC.out
        go_wp2_with fail
        refine (rmeasure2 _ HL ho).mono ?_
        rintro e w3 ⟨rfl, HL2⟩
        clear HL
        have HL := HL2
        clear HL2
        have ho2 := measure_ok s ho x
        have hk2 := Lib.hid (show (s.measure x).bk ≤ ((k + 1 : Nat) : Int) by rw [measure_bk]; split <;> omega)
        generalize s.measure x = s2 at *
        clear hck
        have o2 := ho2
        have m0 := ho2.m0
        have o0 := ho2.o0
        have m1 := ho2.m1
        have o1 := ho2.o1
        clear ho2
        go_wp2_with fail
        refine (smooth2 HL o2).mono ?_
        clear HL
        rintro e w4 ⟨rfl, HL⟩
        have h1 := HL.lies
        have h2 := HL.rlies
        have d0 : w4.cell? ⟨c, 0, none⟩ = some (.int .i64 s2.m) := Has.cell h2 rfl
        have d1 : w4.cell? ⟨c, 1, none⟩ = some (.int .i64 s2.o) := Has.cell h2 rfl
        have d3 : w4.cell? ⟨c, 3, none⟩ = some (.int .i64 s2.bk) := Has.cell h2 rfl
        have H1 := Lib.hid h1
        have H2 := Lib.hid h2
        have HL2 := Lib.hid HL
        clear h1 h2 HL
        go_wp2
        go_quiet ((first | (go_at_call 14; exact Calls.quiet_of (time_q s2 b _ H1.out o2)) | (go_at_call 15; exact Calls.quiet_of (rtime_q s2 c _ H2.out o2)) | (go_at_call 16; exact Calls.quiet_of (backs_q s2 b _ H1.out))))
        go_wp2
        go_roundw
        case rel => exact ⟨k + 1, s2, by omega, by go_num, HL2.out.same (same_drewN _ _), o2, hk2.out⟩
        case measure => simp [intOf]; omega
    · have hB := HL.below
      clear HL ho hbk
      go_wp2_with fail
      refine (alive_k w _ hB).mono ?_
      rintro e w7 ⟨rfl, hb⟩
      go_wp2
      go_ret
      exact ⟨rfl, hb⟩
end Go.Proofs.Ytfdbmpohegdpjaa.Rto
