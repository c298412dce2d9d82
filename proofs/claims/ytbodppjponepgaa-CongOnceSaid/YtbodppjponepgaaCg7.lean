import Derived.Test.YtbodppjponepgaaCg6
namespace Go.Proofs.Ytbodppjponepgaa.Cg
open Go.RowKit Blk
attribute [local go_sem] Go.Proofs.YtbodppjponepgaaW.PrintMore.max2_int Go.Proofs.YtbodppjponepgaaW.PrintMore.min2_int Go.Proofs.YtbodppjponepgaaW.PrintMore.max_two Go.Proofs.YtbodppjponepgaaW.PrintMore.min_two
set_option linter.unusedVariables false

set_option maxHeartbeats 8000000 in
set_option maxRecDepth 100000 in
theorem once_k (m first f : Int) (a : Option Addr) (len cap : Nat) (zs : List Int) (again : Int) (w : World) (hr : IsRow .u8 w a len cap zs) (hm : 0 ≤ m ∧ m ≤ 65535) (hfi : 0 ≤ first ∧ first ≤ 4294967295) (hf : 0 ≤ f ∧ f ≤ 65535) (ha : 0 ≤ again ∧ again ≤ 255) (hlen : len ≤ 9223372036854775807) :
    Calls Try.prog 3 #[.int .u16 m, .int .u32 first, .int .u16 f, .slice a len cap, .int .u8 again] w fun e w' => e = .returned (.bool true) ∧ Below w.heap.size w w' := by
  by_cases c0 : m = 0
  · subst c0
    go_enter Try.func3, Try.ntmps3
    go_wp2_with fail
    refine (new_no 0 w (by decide)).mono ?_
    rintro e w1 ⟨rfl, rfl⟩
    go_wp2_with fail
    refine (alive_k w w (Below.refl _ _)).mono ?_
    rintro e w1 ⟨rfl, hb⟩
    go_wp2
    go_ret
    exact ⟨rfl, hb⟩
  have hm1 : 1 ≤ m := by omega
  clear c0
  by_cases c1 : 100 < len
  · go_enter Try.func3, Try.ntmps3
    go_wp2_with fail
    refine (new_l m w w (Below.refl _ _) ⟨hm1, hm.2⟩).mono ?_
    rintro e w1 ⟨rfl, HL⟩
    go_wp2_with fail
    refine (alive_k w _ HL.below).mono ?_
    rintro e w1 ⟨rfl, hb⟩
    go_wp2
    go_ret
    exact ⟨rfl, hb⟩
  by_cases c2 : f = 0
  · subst c2
    go_enter Try.func3, Try.ntmps3
    go_wp2_with fail
    refine (new_l m w w (Below.refl _ _) ⟨hm1, hm.2⟩).mono ?_
    rintro e w1 ⟨rfl, HL⟩
    go_wp2_with fail
    refine (alive_k w _ HL.below).mono ?_
    rintro e w1 ⟨rfl, hb⟩
    go_wp2
    go_ret
    exact ⟨rfl, hb⟩
  have e0 := beq_f c2
  have hf1 : 1 ≤ f := by omega
  clear c2
  have HR := Lib.hid (row_at hr)
  clear hr
  obtain ⟨next, hnx⟩ : ∃ x, x = (first + f) % 4294967296 := ⟨_, rfl⟩
  have hnb : 0 ≤ next ∧ next ≤ 4294967295 := by omega
  obtain ⟨t1, t2, t3, o1, o2, hrec⟩ := first_three m first next f ⟨hm1, hm.2⟩ hnb
  have T1 := Lib.hid t1
  have T2 := Lib.hid t2
  have T3 := Lib.hid t3
  have O1 := Lib.hid o1
  have O2 := Lib.hid o2
  have HRec := Lib.hid hrec
  clear t1 t2 t3 o1 o2 hrec
  have HN := Lib.hid hnx
  clear hnx
  go_enter Try.func3, Try.ntmps3
  go_wp2_with fail
  refine (new_l m w w (Below.refl _ _) ⟨hm1, hm.2⟩).mono ?_
  rintro e w1 ⟨rfl, HL⟩
  go_wp2
  generalize w.heap.size = b at HL ⊢
  rw [← HN.out]
  refine wp_loop_rounds 4 ?_
  rw [rounds_succ]
  go_wp2_with fail
  refine (twice_l first next f HL ((start_ok m ⟨hm1, hm.2⟩).mono (show (0 : Int) ≤ 10 by decide)) (by decide) (by omega)).mono ?_
  clear HL
  rintro e w2 ⟨rfl, HL⟩
  rw [T1.out] at HL ⊢
  go_wp2
  rw [rounds_succ]
  go_wp2_with fail
  refine (twice_l first next f HL O1.out (by decide) (by omega)).mono ?_
  clear HL
  rintro e w3 ⟨rfl, HL⟩
  rw [T2.out] at HL ⊢
  go_wp2
  rw [rounds_succ]
  go_wp2_with fail
  refine (twice_l first next f HL O2.out (by decide) (by omega)).mono ?_
  clear HL
  rintro e w4 ⟨rfl, HL⟩
  rw [T3.out] at HL ⊢
  go_wp2
  rw [rounds_succ]
  generalize (start m).more.more.hit next f = s0 at *
  clear T1 T2 T3 O1 O2
  go_wp2
  go_loopg [14, 16, 17] len (fun g vt vu vi wr => ∃ (i : Nat) (r u : Int) (s : St), i + g = len ∧ vi = .int .i64 i ∧ vt = .int .i64 1 ∧ vu = .int .u32 u ∧ 0 ≤ r ∧ r ≤ 65535 ∧ 0 ≤ u ∧ u ≤ 4294967295 ∧ Hid (u = (next - r) % 4294967296) ∧ Hid (r ≠ 0 → InRec s next) ∧ Lone w b s wr)
  case atStart => exact ⟨0, f, first, s0, by omega, rfl, rfl, rfl, by omega, by omega, by omega, by omega, Lib.hid (by rw [HN.out]; omega), Lib.hid (fun _ => HRec.out), HL⟩
  case round =>
    clear HL
    obtain ⟨i, r, u, s, hig, rfl, rfl, rfl, hr0, hr1, hu0, hu1, hu, hs, HL⟩ := hrel
    by_cases hr : r = 0
    · have eu : u = next := by have := hu.out; omega
      subst eu
      have p1 : (u == u) = true := beq_self_eq_true u
      have hB := HL.below
      clear hs hu hr HL
      by_cases hi : i < len
      all_goals
        go_wp2_with fail
        refine (alive_k w _ hB).mono ?_
        rintro e w5 ⟨rfl, hb⟩
        go_wp2
        go_ret
        exact ⟨rfl, hb⟩
    · have hne : u ≠ next := by have := hu.out; omega
      have p1 := beq_f hne
      have p2 : (u != next) = true := by rw [bne, p1]; rfl
      have hs2 := hs.out hr
      clear hne hs
      by_cases hi : i < len
      · obtain ⟨bb, off, ea, hcell, hwf⟩ := HR.out.resolve_left (by omega)
        subst ea
        have hwz := bounds_u8 (hwf i hi)
        have hck := later HL.below (hcell i hi)
        obtain ⟨z, hz⟩ : ∃ z, zs.getD i 0 = z := ⟨_, rfl⟩
        rw [hz] at hck hwz
        clear hcell hwf hz
        have hr3 : (next - u) % 4294967296 = r := by have := hu.out; omega
        by_cases hmin : r < 1 + z
        · skip
          have hu2 : (u + r) % 4294967296 = next := by have := hu.out; omega
          obtain ⟨q1, q2, q3⟩ := rec_end s next r hs2 (by omega)
          have Q1 := Lib.hid q1
          have Q2 := Lib.hid q2
          have Q3 := Lib.hid q3
          clear q1 q2 q3
          have n1 : (next == next) = true := beq_self_eq_true next
          go_wp2_with fail
          refine (acked_l next r HL hs2.ok (by decide) (by omega)).mono ?_
          clear HL
          rintro e w5 ⟨rfl, HL⟩
          rw [Q1.out]
          try rw [hu2]
          clear hu hu2 hs2 hr3 p1 p2
          go_wp2_with fail
          refine (state_l HL).mono ?_
          rintro e w6 ⟨rfl, rfl⟩
          rw [Q2.out]
          go_wp2
          by_cases ha6 : 0 < again % 6
          all_goals
            refine wp_loop_rounds 1 ?_
            rw [rounds_succ]
            go_wp2
            go_roundg (len - (i + 1))
            case measure => omega
            case rel => exact ⟨i + 1, 0, next, _, by omega, by go_num, rfl, rfl, by omega, by omega, by omega, by omega, Lib.hid (by omega), Lib.hid (fun h => absurd rfl h), HL⟩
        by_cases hmin2 : r = 1 + z
        · subst hmin2
          have hu2 : (u + (1 + z)) % 4294967296 = next := by have := hu.out; omega
          obtain ⟨q1, q2, q3⟩ := rec_end s next (1 + z) hs2 (by omega)
          have Q1 := Lib.hid q1
          have Q2 := Lib.hid q2
          have Q3 := Lib.hid q3
          clear q1 q2 q3
          have n1 : (next == next) = true := beq_self_eq_true next
          go_wp2_with fail
          refine (acked_l next (1 + z) HL hs2.ok (by decide) (by omega)).mono ?_
          clear HL
          rintro e w5 ⟨rfl, HL⟩
          rw [Q1.out]
          try rw [hu2]
          clear hu hu2 hs2 hr3 p1 p2
          go_wp2_with fail
          refine (state_l HL).mono ?_
          rintro e w6 ⟨rfl, rfl⟩
          rw [Q2.out]
          go_wp2
          by_cases ha6 : 0 < again % 6
          all_goals
            refine wp_loop_rounds 1 ?_
            rw [rounds_succ]
            go_wp2
            go_roundg (len - (i + 1))
            case measure => omega
            case rel => exact ⟨i + 1, 0, next, _, by omega, by go_num, rfl, rfl, by omega, by omega, by omega, by omega, Lib.hid (by omega), Lib.hid (fun h => absurd rfl h), HL⟩
        · obtain ⟨v, hv⟩ : ∃ v, v = (u + (1 + z)) % 4294967296 := ⟨_, rfl⟩
          have hv2 : v = (next - (r - (1 + z))) % 4294967296 := by have := hu.out; omega
          have hvb : 0 ≤ v ∧ v ≤ 4294967295 := by omega
          have hvn : v ≠ next := by omega
          obtain ⟨q1, q2⟩ := rec_part s next v (1 + z) hs2 (by omega) hvn (less_back next v (r - (1 + z)) hv2 hnb (by omega))
          have Q1 := Lib.hid q1
          have Q2 := Lib.hid q2
          have n1 : (v == next) = false := beq_f hvn
          have n2 : (v != next) = true := by rw [bne, n1]; rfl
          have HV := Lib.hid hv2
          have hv3 := hv.symm
          clear q1 q2 hvn hv2 hv
          go_wp2_with fail
          refine (acked_l v (1 + z) HL hs2.ok (by decide) (by omega)).mono ?_
          clear HL
          rintro e w5 ⟨rfl, HL⟩
          rw [Q1.out]
          try rw [hv3]
          clear hu hv3 hs2 hr3 p1 p2
          go_wp2_with fail
          refine (state_l HL).mono ?_
          rintro e w6 ⟨rfl, rfl⟩
          rw [Q2.out.st]
          generalize (s.acked v (1 + z)).1 = s1 at *
          go_wp2
          clear Q1
          go_loopg [14, 20] 6 (fun g vt vk wr => ∃ (k : Nat) (s2 : St), k + g = 6 ∧ vt = .int .i64 1 ∧ vk = .int .i64 k ∧ InRec s2 next ∧ Lone w b s2 wr)
          case atStart => exact ⟨0, s1, by omega, rfl, rfl, Q2.out, HL⟩
          case round =>
            clear HL Q2
            obtain ⟨k, s2, hkg, rfl, rfl, hs2, HL⟩ := hrel
            by_cases hk : (k : Int) < again % 6
            · obtain ⟨r1, r2⟩ := rec_twice s2 next v next f hs2
              have R1 := Lib.hid r1
              clear r1
              go_wp2_with fail
              refine (twice_l v next f HL hs2.ok (by decide) (by omega)).mono ?_
              clear HL
              rintro e w7 ⟨rfl, HL⟩
              rw [R1.out] at HL ⊢
              go_wp2
              go_roundg (6 - (k + 1))
              case measure => omega
              case rel => exact ⟨k + 1, _, by omega, rfl, by go_num, r2, HL⟩
            · go_wp2
              go_roundg (len - (i + 1))
              case measure => omega
              case rel => exact ⟨i + 1, r - (1 + z), v, s2, by omega, by go_num, rfl, rfl, by omega, by omega, by omega, by omega, HV, Lib.hid (fun _ => hs2), HL⟩
      · have hB := HL.below
        clear hs2 hu hr HL
        go_wp2_with fail
        refine (alive_k w _ hB).mono ?_
        rintro e w5 ⟨rfl, hb⟩
        go_wp2
        go_ret
        exact ⟨rfl, hb⟩
end Go.Proofs.Ytbodppjponepgaa.Cg
