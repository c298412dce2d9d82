import Derived.Test.YtbodppjponepgaaCg11
import Derived.Test.YtbodppjponepgaaCg6
import Derived.Deep.RegionHeld3
namespace Go.Proofs.Ytbodppjponepgaa.Cg
open Go.RowKit Blk
set_option linter.unusedVariables false

theorem quiet_left {P : Program} {f : FuncId} {args : Array Value} {w : World} {n : Nat} {v : Value}
    (h : Calls P f args (w.drewN n) fun e w' => e = .returned v ∧ w.drewN n = w') : Calls P f args (w.drewN n) fun e w'' => e = .returned v ∧ ∃ m, w'' = w.drewN m :=
  h.mono fun _ _ ⟨he, hm⟩ => ⟨he, n, hm.symm⟩
theorem Trio.drewN {w0 w : World} {b bx k : Nat} {s sx : St} {y : Op.Cl} (h : Trio w0 b s bx sx k y w) (n : Nat) : Trio w0 b s bx sx k y (w.drewN n) :=
  ⟨⟨h.duo.is, h.duo.rx, ⟨h.duo.below.os, h.duo.below.tape, h.duo.below.output, h.duo.below.size, h.duo.below.block⟩, h.duo.gb, h.duo.gx⟩, h.y⟩

set_option maxHeartbeats 20000000 in
set_option maxRecDepth 100000 in
theorem plays_k (m : Int) (a : Option Addr) (len cap_ : Nat) (z : Nat → Op.Cl) (w : World) (hr : Op.Script w a len z) (hlen : len ≤ 9223372036854775807) :
    Calls Try.prog 4 #[.int .i64 m, .slice a len cap_] w fun e w' => e = .returned (.bool true) ∧ Below w.heap.size w w' := by
  by_cases c1 : 300 < len
  · go_enter Try.func4, Try.ntmps4
    go_wp2_with fail
    refine (alive_k w _ (Below.refl _ _)).mono ?_
    rintro e w1 ⟨rfl, hb⟩
    go_wp2
    go_ret
    exact ⟨rfl, hb⟩
  by_cases c0 : m < 1 ∨ 65535 < m
  · go_enter Try.func4, Try.ntmps4
    go_wp2_with fail
    refine (new_no m w c0).mono ?_
    rintro e w1 ⟨rfl, rfl⟩
    go_wp2_with fail
    refine (rnew_no m w c0).mono ?_
    rintro e w1 ⟨rfl, rfl⟩
    go_wp2_with fail
    refine (alive_k w w (Below.refl _ _)).mono ?_
    rintro e w1 ⟨rfl, hb⟩
    go_wp2
    go_ret
    exact ⟨rfl, hb⟩
  have hm : 1 ≤ m ∧ m ≤ 65535 := by omega
  obtain ⟨hm1, hm2⟩ := hm
  clear c0
  have HR := Lib.hid hr
  have HO := Lib.hid (start_ok m ⟨hm1, hm2⟩)
  clear hr
  go_enter Try.func4, Try.ntmps4
  go_wp2_with fail
  refine (new_l m w w (Below.refl _ _) ⟨hm1, hm2⟩).mono ?_
  rintro e w1 ⟨rfl, HL⟩
  go_wp2_with fail
  refine (rnew_c m w1 ⟨hm1, hm2⟩).mono ?_
  rintro e w2 ⟨rfl, rfl⟩
  have HD : Duo w w.heap.size (start m) w1.heap.size (start m) (w1.alloc (.cells (start m).rc.toArray 42)) :=
    ⟨HL.is.alloc _, Has.new w1 _ 42, HL.below.alloc HL.below.size _, HL.ge, HL.below.size⟩
  clear HL
  go_wp2
  generalize w1.alloc (.cells (start m).rc.toArray 42) = w2 at *
  generalize w1.heap.size = bx at *
  generalize w.heap.size = b at HD ⊢
  generalize start m = s0 at *
  go_loopg [8] len (fun g vi wr => ∃ (i : Nat) (s : St), i + g = len ∧ vi = .int .i64 i ∧ Hid (s.Ok i) ∧ Duo w b s bx s wr)
  case atStart => exact ⟨0, s0, by omega, rfl, HO, HD⟩
  case round =>
    clear HD HO
    obtain ⟨i, s, hig, rfl, hO, HD⟩ := hrel
    by_cases hi : i < len
    · obtain ⟨bb, off, ea, hcell⟩ := HR.out.resolve_left (by omega)
      subst ea
      obtain ⟨hok, k0, k1, k2, k3, k4⟩ := hcell i hi
      have q0 := later HD.below k0
      have q1 := later HD.below k1
      have q2 := later HD.below k2
      have q3 := later HD.below k3
      have q4 := later HD.below k4
      clear k0 k1 k2 k3 k4 hcell
      obtain ⟨⟨d, una, next, n, f⟩, hz⟩ : ∃ y, y = z i := ⟨_, rfl⟩
      rw [← hz] at hok q0 q1 q2 q3 q4
      obtain ⟨hd, hu, hx, hn, hf⟩ := hok
      clear hz
      dsimp only at hd hu hx hn hf q0 q1 q2 q3 q4
      have HT : Trio w b s bx s wr.heap.size ⟨d, una, next, n, f⟩ (wr.alloc (.cells #[.int .u8 d, .int .u32 una, .int .u32 next, .int .i64 n, .int .i64 f] 38)) := HD.call ⟨d, una, next, n, f⟩
      clear HD
      have hd8 : (d % 8 = 0 ∨ d % 8 = 1 ∨ d % 8 = 2) ∨ (d % 8 = 3 ∨ d % 8 = 4 ∨ d % 8 = 5 ∨ d % 8 = 6) ∨ d % 8 = 7 := by omega
      rcases hd8 with hd8 | hd8 | hd8
      · rcases hd8 with hd8 | hd8 | hd8
        all_goals
          as_aux_lemma =>
            have OK1 := Lib.hid (acked_ok s una n hO.out)
            go_wp2
            have HTd := HT.drew
            generalize wr.alloc (.cells #[.int .u8 d, .int .u32 una, .int .u32 next, .int .i64 n, .int .i64 f] 38) = wy at *
            obtain ⟨y1, y2, y3, y4⟩ := tcells HT
            dsimp only at y1 y2 y3 y4
            go_region_held3 (fun w' => w'.cell? ⟨wr.heap.size, 1, none⟩ = some (.int .u32 una) ∧ w'.cell? ⟨wr.heap.size, 3, none⟩ = some (.int .i64 n)) (exact ⟨by assumption, by assumption⟩) (first | (go_at_call 11; refine (tacked una n (by assumption) hO.out (by omega) (by omega)).mono ?_; rintro e w9 ⟨rfl, HT⟩; obtain ⟨y1, y2, y3, y4⟩ := tcells HT; dsimp only at y1 y2 y3 y4) | (go_at_call 14; refine (txacked una n (by assumption) hO.out (by omega) (by omega) (by omega)).mono ?_; rintro e w9 ⟨rfl, HT⟩; obtain ⟨y1, y2, y3, y4⟩ := tcells HT; dsimp only at y1 y2 y3 y4))
            all_goals
              clear y1 y2 y3 y4
              have X := txcells HT
              obtain ⟨x1, x2, x3⟩ := X
              go_wp2
              go_quiet (first | (go_at_call 18; exact quiet_left (twindow (HT.drewN _))) | (go_at_call 19; exact quiet_left (tedge (HT.drewN _))) | (go_at_call 12; exact quiet_left (tstate (HT.drewN _))))
              go_wp2
              go_roundg (len - (i + 1))
              case measure => omega
              case rel => exact ⟨i + 1, _, by omega, by go_num, Lib.hid (by rw [show ((i + 1 : Nat) : Int) = i + 1 by omega]; exact OK1.out), (HT.drewN _).duo⟩
      · rcases hd8 with hd8 | hd8 | hd8 | hd8
        all_goals
          as_aux_lemma =>
            have OK1 := Lib.hid (twice_ok s una next f hO.out (by omega))
            go_wp2
            have HTd := HT.drew
            generalize wr.alloc (.cells #[.int .u8 d, .int .u32 una, .int .u32 next, .int .i64 n, .int .i64 f] 38) = wy at *
            obtain ⟨y1, y2, y3, y4⟩ := tcells HT
            dsimp only at y1 y2 y3 y4
            go_region_held3 (fun w' => w'.cell? ⟨wr.heap.size, 1, none⟩ = some (.int .u32 una) ∧ w'.cell? ⟨wr.heap.size, 2, none⟩ = some (.int .u32 next) ∧ w'.cell? ⟨wr.heap.size, 4, none⟩ = some (.int .i64 f)) (exact ⟨by assumption, by assumption, by assumption⟩) (first | (go_at_call 10; refine (ttwice una next f (by assumption) hO.out (by omega) (by omega)).mono ?_; rintro e w9 ⟨rfl, HT⟩; obtain ⟨y1, y2, y3, y4⟩ := tcells HT; dsimp only at y1 y2 y3 y4) | (go_at_call 15; refine (txtwice una next f (by assumption) hO.out (by omega) (by omega) (by omega)).mono ?_; rintro e w9 ⟨rfl, HT⟩; obtain ⟨y1, y2, y3, y4⟩ := tcells HT; dsimp only at y1 y2 y3 y4))
            all_goals
              clear y1 y2 y3 y4
              have X := txcells HT
              obtain ⟨x1, x2, x3⟩ := X
              go_wp2
              go_quiet (first | (go_at_call 18; exact quiet_left (twindow (HT.drewN _))) | (go_at_call 19; exact quiet_left (tedge (HT.drewN _))) | (go_at_call 12; exact quiet_left (tstate (HT.drewN _))))
              go_wp2
              go_roundg (len - (i + 1))
              case measure => omega
              case rel => exact ⟨i + 1, _, by omega, by go_num, Lib.hid (by rw [show ((i + 1 : Nat) : Int) = i + 1 by omega]; exact OK1.out), (HT.drewN _).duo⟩
      · as_aux_lemma =>
          have OK1 := Lib.hid ((late_ok s next f hO.out (by omega)).mono (show (i : Int) ≤ i + 1 by omega))
          go_wp2_with fail
          refine (tlate next f HT hO.out (by omega)).mono ?_
          clear HT
          rintro e w9 ⟨rfl, HT⟩
          obtain ⟨y1, y2, y3, y4⟩ := tcells HT
          dsimp only at y1 y2 y3 y4
          go_wp2_with fail
          refine (txlate next f HT hO.out (by omega)).mono ?_
          clear HT y1 y2 y3 y4
          rintro e w10 ⟨rfl, HT⟩
          have X := txcells HT
          obtain ⟨x1, x2, x3⟩ := X
          go_wp2
          go_quiet (first | (go_at_call 18; exact quiet_left (twindow (HT.drewN _))) | (go_at_call 19; exact quiet_left (tedge (HT.drewN _))) | (go_at_call 12; exact quiet_left (tstate (HT.drewN _))))
          go_wp2
          go_roundg (len - (i + 1))
          case measure => omega
          case rel => exact ⟨i + 1, _, by omega, by go_num, Lib.hid (by rw [show ((i + 1 : Nat) : Int) = i + 1 by omega]; exact OK1.out), (HT.drewN _).duo⟩
    · have hB := HD.below
      clear hO HD
      go_wp2_with fail
      refine (alive_k w _ hB).mono ?_
      rintro e w11 ⟨rfl, hb⟩
      go_wp2
      go_ret
      exact ⟨rfl, hb⟩
end Go.Proofs.Ytbodppjponepgaa.Cg
