import Derived.Test.YtocgjkkkblmfaaaSt
namespace Go.Proofs.Ytocgjkkkblmfaaa.St
open Go.RowKit Blk
set_option linter.unusedVariables false
theorem hsh0 (key text : ByteArray) (h : text.size = 0) : (((hsh key text (8 * text.size)).toNat : Nat) : Int) = 0 := by rw [h]; rfl

set_option maxHeartbeats 4000000 in
set_option maxRecDepth 1000000 in
theorem hash_ok (key text : ByteArray) (w : World) (h1 : key.size = 40) (h2 : text.size ≤ 36) :
    Calls Try.prog 9 #[.string key, .string text] w fun e w' => e = .returned (.tuple #[.int .u32 ((hsh key text (8 * text.size)).toNat : Nat), .int .i64 0]) ∧ ∃ n, w' = w.drewN n := by
  have hk := Lib.hid h1
  have e : ((key.size : Int) != 40) = false := by rw [bne_eq_false_iff_eq]; omega
  have e0 : 0 < key.size := by omega
  have e1 : (1 : Int) < (key.size : Int) := by omega
  have e2 : (2 : Int) < (key.size : Int) := by omega
  have e3 : (3 : Int) < (key.size : Int) := by omega
  have hsz : 40 ≤ key.size := by omega
  clear h1
  go_enter Try.func9, Try.ntmps9
  go_wp2
  refine wp_scope_jumps 0 (fun a' w' => (∃ n, w' = w.drewN n) ∧ ∃ (i : Nat) (h7 : Int) (u9 u10 u11 u12 u13 u14 u15 u16 u17 u18 u19 u20 u21 u22 u23 u24 u25 u26 u27 u28 u29 u30 u31 u32 u33 u34 u35 u36 u37 u38 u39 u40 u41 u42 u43 u44 u45 u46 u47 u48 u49 u50 u51 u52 u53 u54 u55 u56 u57 u58 u59 u60 u61 u62 u63 u64 u65 u66 u67 u68 u69 u70 u71 u72 u73 u74 u75 u76 : Value), a' = { tmps := #[.string key, .string text, undef, undef, .int .u32 0, .int .i64 0, .int .u32 ((win key i).toNat : Nat), .int .u32 h7, .int .i64 (i : Nat), u9, u10, u11, u12, u13, u14, u15, u16, u17, u18, u19, u20, u21, u22, u23, u24, u25, u26, u27, u28, u29, u30, u31, u32, u33, u34, u35, u36, u37, u38, u39, u40, u41, u42, u43, u44, u45, u46, u47, u48, u49, u50, u51, u52, u53, u54, u55, u56, u57, u58, u59, u60, u61, u62, u63, u64, u65, u66, u67, u68, u69, u70, u71, u72, u73, u74, u75, u76], defers := [] } ∧ h7 = (((hsh key text i).toNat : Nat) : Int) ∧ i ≤ 8 * text.size) (fun a' _ => 8 * text.size - (intOf (a'.tmps.getD 8 undef)).toNat) rfl ?_ ?_
  · by_cases hz : text.size = 0
    · have hz2 := Lib.hid hz
      have hzb : ((text.size : Int) == 0) = true := by rw [beq_iff_eq]; omega
      have hw := hsh0 key text hz
      have HW := Lib.hid hw
      clear hw hz
      go_wp2
      go_quiet (fail)
      go_wp2
      go_step3
      go_wp2
      simp only [Exit.jump]
      go_ret2
      exact ⟨by rw [HW.out]; rfl, _, rfl⟩
    · have hw0 := first_win key
      rw [← byte_is key 0 (by omega), ← byte_is key 1 (by omega), ← byte_is key 2 (by omega), ← byte_is key 3 (by omega)] at hw0
      have t0 : 0 < text.size := by omega
      have tn : ((0 : Int) == 8 * (text.size : Int)) = false := by rw [beq_eq_false_iff_ne]; omega
      have hb0 : Go.bits .and .u8 ((byteAt text 0 : Int) / 128) 1 = if (byteAt text 0).testBit 7 then 1 else 0 := by simpa using and_u8 (byteAt text 0) 7 (byte_lt _ _)
      have hk0 : Go.bits .and .u32 ((byteAt key 4 : Int) / 128 % 4294967296) 1 = if (byteAt key 4).testBit 7 then 1 else 0 := by simpa using and_u32 (byteAt key 4) 7 (byte_lt _ _)
      have hn0 : Go.bits .or .u32 ((((win key 0).toNat : Nat) : Int) * (2 : Int) % (4294967296 : Int)) (if (byteAt key 4).testBit 7 then 1 else 0) = (((win key 1).toNat : Nat) : Int) := next_win key 0
      rw [← hk0] at hn0
      rw [← byte_is text 0 (by omega)] at hb0
      rw [← byte_is key 4 (by omega)] at hn0
      clear hk0
      have hat : (4 : Int) < (key.size : Int) := by omega
      by_cases cb : bitAt text 0 = true
      · have cb' : (byteAt text 0).testBit 7 = true := cb
        rw [← byte_is text 0 (by omega)] at cb'
        rw [if_pos cb'] at hb0
        have hx : Go.bits .xor .u32 0 (((win key 0).toNat : Nat) : Int) = (((hsh key text 1).toNat : Nat) : Int) := by
          refine (xor_bv 0#32 (win key 0)).trans ?_
          have hh : hsh key text 1 = 0#32 ^^^ win key 0 := by show (if bitAt text 0 then _ else _) = _; rw [if_pos cb]; rfl
          rw [hh]
        clear cb cb'
        go_wp2
        go_quiet (fail)
        go_wp2
        go_step3
        go_wp2
        go_step3
        refine ⟨rfl, ⟨_, rfl⟩, 1, _, _, _, _, _, _, _, _, _, _, _, _, _, _, _, _, _, _, _, _, _, _, _, _, _, _, _, _, _, _, _, _, _, _, _, _, _, _, _, _, _, _, _, _, _, _, _, _, _, _, _, _, _, _, _, _, _, _, _, _, _, _, _, _, _, _, _, _, _, rfl, rfl, by omega⟩
      · have cb' : (byteAt text 0).testBit 7 = false := by simpa [bitAt] using cb
        rw [← byte_is text 0 (by omega)] at cb'
        rw [if_neg (by rw [cb']; decide)] at hb0
        have hh : (0 : Int) = (((hsh key text 1).toNat : Nat) : Int) := by
          have : hsh key text 1 = 0#32 := by show (if bitAt text 0 then _ else _) = _; rw [if_neg cb]; rfl
          rw [this]; rfl
        have HH := Lib.hid hh
        clear cb cb' hh
        go_wp2
        go_quiet (fail)
        go_wp2
        go_step3
        go_wp2
        go_step3
        refine ⟨rfl, ⟨_, rfl⟩, 1, _, _, _, _, _, _, _, _, _, _, _, _, _, _, _, _, _, _, _, _, _, _, _, _, _, _, _, _, _, _, _, _, _, _, _, _, _, _, _, _, _, _, _, _, _, _, _, _, _, _, _, _, _, _, _, _, _, _, _, _, _, _, _, _, _, _, _, _, _, rfl, HH.out, by omega⟩

  · rintro a' w' ⟨⟨n, rfl⟩, i, h7, u9, u10, u11, u12, u13, u14, u15, u16, u17, u18, u19, u20, u21, u22, u23, u24, u25, u26, u27, u28, u29, u30, u31, u32, u33, u34, u35, u36, u37, u38, u39, u40, u41, u42, u43, u44, u45, u46, u47, u48, u49, u50, u51, u52, u53, u54, u55, u56, u57, u58, u59, u60, u61, u62, u63, u64, u65, u66, u67, u68, u69, u70, u71, u72, u73, u74, u75, u76, rfl, rfl, hi⟩
    by_cases hlt : i < 8 * text.size
    · have hi8 : i / 8 < text.size := by omega
      have hb0 := and_u8 (byteAt text (i / 8)) (7 - i % 8) (byte_lt _ _)
      have hk0 := and_u32 (byteAt key (i / 8 + 4)) (7 - i % 8) (byte_lt _ _)
      have hn0 := next_win key i
      rw [← byte_is text (i / 8) (by omega)] at hb0
      rw [← byte_is key (i / 8 + 4) (by omega)] at hk0
      rw [show byteAt key (i / 8 + 4) = (key[i / 8 + 4]'(by omega)).toNat from (byte_is key (i / 8 + 4) (by omega)).symm, ← hk0] at hn0
      clear hk0
      by_cases cb : bitAt text i = true
      · have cb' : (byteAt text (i / 8)).testBit (7 - i % 8) = true := cb
        rw [← byte_is text (i / 8) (by omega)] at cb'
        rw [if_pos cb'] at hb0
        have hx := xor_bv (hsh key text i) (win key i)
        have hh : hsh key text i ^^^ win key i = hsh key text (i + 1) := by show _ = if bitAt text i then _ else _; rw [if_pos cb]
        rw [hh] at hx
        clear cb cb' hh
        have hat : ((i / 8 + 4 : Nat) : Int) < (key.size : Int) := by omega
        go_wp2
        go_step3
        rw [show ((i : Int) + 1) = ((i + 1 : Nat) : Int) from by omega]
        refine ⟨rfl, ⟨⟨n, rfl⟩, i + 1, _, _, _, _, _, _, _, _, _, _, _, _, _, _, _, _, _, _, _, _, _, _, _, _, _, _, _, _, _, _, _, _, _, _, _, _, _, _, _, _, _, _, _, _, _, _, _, _, _, _, _, _, _, _, _, _, _, _, _, _, _, _, _, _, _, _, _, _, _, rfl, rfl, by omega⟩, ?_⟩
        simp [intOf]; omega
      · have cb' : (byteAt text (i / 8)).testBit (7 - i % 8) = false := by simpa [bitAt] using cb
        rw [← byte_is text (i / 8) (by omega)] at cb'
        rw [if_neg (by rw [cb']; decide)] at hb0
        have hh : hsh key text i = hsh key text (i + 1) := by show _ = if bitAt text i then _ else _; rw [if_neg cb]
        clear cb cb'
        have hat : ((i / 8 + 4 : Nat) : Int) < (key.size : Int) := by omega
        go_wp2
        go_step3
        rw [show ((i : Int) + 1) = ((i + 1 : Nat) : Int) from by omega]
        refine ⟨rfl, ⟨⟨n, rfl⟩, i + 1, _, _, _, _, _, _, _, _, _, _, _, _, _, _, _, _, _, _, _, _, _, _, _, _, _, _, _, _, _, _, _, _, _, _, _, _, _, _, _, _, _, _, _, _, _, _, _, _, _, _, _, _, _, _, _, _, _, _, _, _, _, _, _, _, _, _, _, _, _, rfl, rfl, by omega⟩, ?_⟩
        simp [intOf]; omega

    · obtain rfl : i = 8 * text.size := by omega
      clear hlt hi
      go_wp2
      simp only [Exit.jump]
      go_ret2
      exact ⟨rfl, n, rfl⟩
end Go.Proofs.Ytocgjkkkblmfaaa.St
