import Derived.Test.YtbpinkelcbcpjaaNp
import Derived.Deep.Cut
namespace Go.Proofs.Ytbpinkelcbcpjaa.Ni
open Go.RowKit Blk Go.Proofs.YtbpinkelcbcpjaaW.PrintWords
set_option linter.unusedVariables false

theorem tk_val (n : Int) (h : Nat) (hn : 0 ≤ n) : (tk n h : Int) = if n ≤ h then n else h := by
  rw [← tk_eq]
  unfold mn mx
  split <;> split <;> split <;> omega
section
variable {w0 w : World} {top b : Nat} {s : St}
theorem Own.q0 (h : Own w0 top b s w) (hl : s.qs.length = 1) : ∃ q, s.qs = [q] ∧ s.qu 0 = q ∧ q.an ≤ s.size ∧ q.a.length = s.size ∧ q.af < s.size := by
  obtain ⟨base, L, _, hA, _⟩ := h.is
  obtain ⟨q, hq⟩ := List.length_eq_one_iff.1 hl
  have hQ := hA.q 0 q (by rw [hq]; rfl)
  exact ⟨q, hq, by unfold St.qu; rw [hq]; rfl, hQ.na, hQ.la, hQ.fa⟩
theorem Own.pick0 (h : Own w0 top b s w) (hl : s.qs.length = 1) (x : Int) : s.pick x = 0 := by
  obtain ⟨base, L, _, hA, _⟩ := h.is
  obtain ⟨i, hi, hi2⟩ := hA.pick x
  rw [hi]
  omega
/-- Whatever comes: the queue's interrupt stays as it is. -/
theorem Own.one_come (h : Own w0 top b s w) (hl : s.qs.length = 1) (x : Sl) : (s.come x).1.qs.length = 1 ∧ ((s.come x).1.qu 0).armed = (s.qu 0).armed := by
  obtain ⟨q, hq, hq0, _⟩ := h.q0 hl
  unfold St.come
  rw [h.pick0 hl, hq0]
  split
  · exact ⟨hl, by show (s.qu 0).armed = _; rw [hq0]⟩
  · unfold St.setq
    rw [hq]
    exact ⟨rfl, rfl⟩
theorem one_waits (hl : s.qs.length = 1) : s.waits 0 = ((s.qu 0).an : Int) := by
  unfold St.waits
  rw [if_pos (by unfold St.is; omega)]
theorem one_raised (hl : s.qs.length = 1) : s.raised.length = if (s.qu 0).up then 1 else 0 := by
  unfold St.raised
  rw [hl]
  show (if (s.qu 0).up then [] ++ [((0 : Nat) : Int)] else []).length = _
  split <;> rfl
theorem Own.one_poll (h : Own w0 top b s w) (hl : s.qs.length = 1) (n : Int) (hn : 1 ≤ n ∧ n ≤ 64) :
    (s.poll 0 n).2.2 = 0 ∧ (s.poll 0 n).2.1.length = tk n (s.qu 0).an ∧ (s.poll 0 n).1.qs.length = 1 ∧ ((s.poll 0 n).1.qu 0).armed = decide ((tk n (s.qu 0).an : Int) < n) ∧ ((s.poll 0 n).1.qu 0).an = (s.qu 0).an - tk n (s.qu 0).an := by
  obtain ⟨q, hq, hq0, h1, h2, h3⟩ := h.q0 hl
  have hp : s.poll 0 n = (s.setq 0 { q.poll s.size (tk n q.an) with armed := decide ((tk n q.an : Int) < n) }, cyc q.a q.af (tk n q.an), 0) := by
    unfold St.poll
    rw [if_pos ⟨by unfold St.is; omega, hn.1, hn.2⟩, hq0]
    rfl
  rw [hp, hq0]
  refine ⟨rfl, cyc_len _ _ _ (by omega) (by have := tk_le n q.an; omega), ?_, ?_, ?_⟩
  · show (s.qs.set 0 _).length = 1
    rw [List.length_set]; exact hl
  · unfold St.setq St.qu
    rw [hq]
    rfl
  · unfold St.setq St.qu
    rw [hq]
    rfl
end
/-- A row of bytes that came in. -/
def BRow (w : World) (a : Option Addr) (len : Nat) (z : Nat → Int) : Prop := (∀ i, 0 ≤ z i ∧ z i ≤ 255) ∧ (0 < len → ∃ x, a = some x ∧ x.block < w.heap.size ∧ ∀ i, i < len → w.cell? (x.add i) = some (.int .u8 (z i)))
theorem addB (x : Addr) (i : Nat) : (x.add i).block = x.block := by unfold Addr.add; split <;> rfl
theorem later {n : Nat} {w w' : World} (h : Below n w w') {a : Addr} {v : Value} (ha : a.block < n) (hc : w.cell? a = some v) : w'.cell? a = some v := by
  rw [← hc]
  unfold World.cell?
  rw [h.block _ ha]
set_option maxHeartbeats 20000000 in
set_option maxRecDepth 100000 in
theorem arms_k (size : Int) (A1 A2 : Option Addr) (l1 c1 l2 c2 : Nat) (z1 z2 : Nat → Int) (w : World) (hs : 0 ≤ size ∧ size ≤ 255) (h1 : BRow w A1 l1 z1) (h2 : BRow w A2 l2 z2) (hl1 : l1 ≤ 9223372036854775807) (hl2 : l2 ≤ 9223372036854775807) :
    Calls Try.prog 5 #[.int .u8 size, .slice A1 l1 c1, .slice A2 l2 c2] w fun e w' => e = .returned (.bool true) ∧ Below w.heap.size w w' := by
  have H1 := Lib.hid h1
  have H2 := Lib.hid h2
  clear h1 h2
  obtain ⟨M, hM⟩ : ∃ M : Nat, size.tmod 30 + 1 = M := ⟨(size.tmod 30 + 1).toNat, by rw [Int.tmod_eq_emod_of_nonneg hs.1]; omega⟩
  have hM1 : 1 ≤ M ∧ M ≤ 30 := by rw [Int.tmod_eq_emod_of_nonneg hs.1] at hM; omega
  have hMmod : size.tmod 30 = (M : Int) - 1 := by omega
  by_cases a1 : l1 ≤ 100
  · by_cases a2 : l2 ≤ 100
    · go_enter Try.func5, Try.ntmps5
      go_wp2_with fail
      have HN := new_o w w (Below.refl _ _) 1 M (by decide) (by omega)
      refine HN.mono ?_
      clear HN
      rintro e w1 ⟨b, rfl, HO, _⟩
      generalize w1.heap.size = top at HO
      have hq0 : ((fresh 1 M).qu 0).armed = true := rfl
      have hql : (fresh 1 M).qs.length = 1 := rfl
      go_wp2
      generalize fresh 1 M = s0 at HO hq0 hql
      go_loopg [9, 10] (l1 + l2) (fun g va vi wr => ∃ (i : Nat) (s : St), i + g = l1 + l2 ∧ vi = .int .i64 i ∧ va = .bool (s.qu 0).armed ∧ s.qs.length = 1 ∧ Own w top b s wr)
      case atStart => exact ⟨0, s0, by omega, rfl, by rw [hq0], hql, HO⟩
      case round =>
        clear HO hq0 hql
        obtain ⟨i, s, hig, rfl, rfl, hql, HO⟩ := hrel
        obtain ⟨arm, harm⟩ : ∃ arm, (s.qu 0).armed = arm := ⟨_, rfl⟩
        rw [harm]
        have HARM := Lib.hid harm
        have HQL := Lib.hid hql
        have HOO := Lib.hid HO
        clear harm hql HO
        by_cases hi : i < l1
        · have g1 : decide (i < l1) = true := decide_eq_true hi
          obtain ⟨x1, rfl, hx1, hc1⟩ := H1.out.2 (by omega)
          have hz1 := H1.out.1 i
          have cz := hc1 i hi
          have hmod : (z1 i).tmod 9 = z1 i % 9 := Int.tmod_eq_emod_of_nonneg hz1.1
          obtain ⟨C, hC⟩ : ∃ C : Nat, z1 i % 9 = C := ⟨(z1 i % 9).toNat, by omega⟩
          rw [hC] at hmod
          have hC9 : C ≤ 8 := by omega
          clear hC hc1
          generalize z1 i = zz at *
          have HCZ := Lib.hid cz
          clear cz
          go_wp2_with fail
          go_loopg [11] C (fun g vk wr => ∃ (k : Nat) (s : St), k + g = C ∧ vk = .int .i64 k ∧ Hid ((s.qu 0).armed = arm) ∧ Hid (s.qs.length = 1) ∧ Hid (Own w top b s wr))
          case atStart => exact ⟨0, s, by omega, rfl, HARM, HQL, HOO⟩
          case round =>
            clear HARM HQL HOO
            obtain ⟨k, s, hkg, rfl, HARM, HQL, HOO⟩ := hrel
            have cz := later HOO.out.below (a := x1.add i) (by rw [addB]; exact hx1) HCZ.out
            by_cases hk : k < C
            · have hk0 : (k : Int) < (C : Int) := by omega
              go_wp2_with fail
              refine (slot_c k ⟨#[120]⟩ wr).mono ?_
              rintro e w2 ⟨rfl, hC2⟩
              have HO2 := HOO.out.still hC2
              clear hC2
              go_wp2_with fail
              refine (came_o HO2 ((k : Int), ⟨#[120]⟩) (by dsimp only; omega)).mono ?_
              rintro e w3 ⟨rfl, HO3, _⟩
              obtain ⟨n1, n2⟩ := HO2.one_come HQL.out ((k : Int), ⟨#[120]⟩)
              rw [HARM.out] at n2
              have N1 := Lib.hid n1
              have N2 := Lib.hid n2
              have N3 := Lib.hid HO3
              clear HO2 HO3 n1 n2 HOO cz
              go_wp2
              go_roundg (C - (k + 1))
              case measure => omega
              case rel => exact ⟨k + 1, _, by omega, by go_num, N2, N1, N3⟩
            · obtain rfl : k = C := by omega
              go_wp2_with fail
              clear cz
              obtain ⟨an, han⟩ : ∃ an, (s.qu 0).an = an := ⟨_, rfl⟩
              have hrl := one_raised HQL.out
              have hw := one_waits HQL.out
              unfold Qu.up at hrl
              rw [HARM.out, han] at hrl
              rw [han] at hw
              have HAN := Lib.hid han
              have HW := Lib.hid hw
              clear han hw
              refine (raised_o HOO.out).mono ?_
              rintro e w2 ⟨⟨AR, cR, rfl, _⟩, HO2, _⟩
              have HO3 := Lib.hid HO2
              clear HO2 HOO
              generalize s.raised.length = m at hrl ⊢
              cases arm with
              | false =>
                obtain rfl : m = 0 := hrl
                by_cases hb : i < l2
                · have g2 : decide (i < l2) = true := decide_eq_true hb
                  obtain ⟨x2, rfl, hx2, hc2⟩ := H2.out.2 (by omega)
                  have hz2 := H2.out.1 i
                  have cz2 := later HO3.out.below (a := x2.add i) (by rw [addB]; exact hx2) (hc2 i hb)
                  have hmod : (z2 i).tmod 64 = z2 i % 64 := Int.tmod_eq_emod_of_nonneg hz2.1
                  obtain ⟨nb, hnb⟩ : ∃ nb, nb = z2 i % 64 + 1 := ⟨_, rfl⟩
                  have hnb1 : 1 ≤ nb ∧ nb ≤ 64 := by omega
                  have hmod2 : (z2 i).tmod 64 = nb - 1 := by omega
                  clear hmod hnb hc2
                  generalize z2 i = zy at *
                  obtain ⟨p1, p2, p3, p4, p5⟩ := HO3.out.one_poll HQL.out nb hnb1
                  rw [HAN.out] at p2 p4 p5
                  have hle := tk_le nb an
                  have hval := tk_val nb an (by omega)
                  obtain ⟨hnb0, hnb64⟩ := hnb1
                  have hkn : (tk nb an : Int) ≤ nb := by rw [hval]; split <;> omega
                  have hkl : (tk nb an : Int) < nb → an - tk nb an = 0 := fun h => by rw [hval] at h; split at h <;> omega
                  have HP2 := Lib.hid p2
                  have HP3 := Lib.hid p3
                  have HP4 := Lib.hid p4
                  have HP5 := Lib.hid p5
                  have HP1 := Lib.hid p1
                  have HNL := H2
                  clear p1 p2 p3 p4 p5 hval H2
                  generalize tk nb an = k at *
                  go_wp2_with fail
                  refine (poll_o HO3.out 0 nb).mono ?_
                  rintro e w4 ⟨⟨AQ, kq, hkq, rfl, _⟩, HO4, _⟩
                  rw [HP2.out] at hkq
                  subst hkq
                  rw [HP1.out]
                  have HO5 := Lib.hid HO4
                  have hw4 := one_waits HP3.out
                  rw [HP5.out] at hw4
                  have HW4 := Lib.hid hw4
                  clear HO4 hw4
                  by_cases hkk : (kq : Int) < nb
                  · have g4 : decide ((kq : Int) < nb) = true := decide_eq_true hkk
                    have g5 : decide (nb < (kq : Int)) = false := decide_eq_false (by omega)
                    have h0 := hkl hkk
                    rw [h0] at HW4
                    have HG4 := Lib.hid g4
                    clear hkl h0
                    go_wp2_with fail
                    refine (waits_o HO5.out 0).mono ?_
                    rintro e w5 ⟨rfl, rfl⟩
                    rw [HW4.out]
                    go_wp2
                    go_roundg (l1 + l2 - (i + 1))
                    case measure => omega
                    case rel => exact ⟨i + 1, _, by omega, by go_num, by rw [HP4.out, HG4.out], HP3.out, HO5.out⟩
                  · have g4 : decide ((kq : Int) < nb) = false := decide_eq_false hkk
                    have g5 : decide (nb < (kq : Int)) = false := decide_eq_false (by omega)
                    have HG4 := Lib.hid g4
                    clear hkl
                    go_wp2
                    go_roundg (l1 + l2 - (i + 1))
                    case measure => omega
                    case rel => exact ⟨i + 1, _, by omega, by go_num, by rw [HP4.out, HG4.out], HP3.out, HO5.out⟩
                · have g2 : decide (i < l2) = false := decide_eq_false hb
                  go_wp2
                  go_roundg (l1 + l2 - (i + 1))
                  case measure => omega
                  case rel => exact ⟨i + 1, s, by omega, by go_num, by rw [HARM.out], HQL.out, HO3.out⟩
              | true =>
                by_cases hp : 0 < an
                · have hp' : (0 : Int) < (an : Int) := by omega
                  obtain rfl : m = 1 := by rw [hrl, decide_eq_true hp]; rfl
                  clear hrl
                  go_wp2_with fail
                  refine (waits_o HO3.out 0).mono ?_
                  rintro e w3 ⟨rfl, rfl⟩
                  rw [HW.out]
                  by_cases hb : i < l2
                  · have g2 : decide (i < l2) = true := decide_eq_true hb
                    obtain ⟨x2, rfl, hx2, hc2⟩ := H2.out.2 (by omega)
                    have hz2 := H2.out.1 i
                    have cz2 := later HO3.out.below (a := x2.add i) (by rw [addB]; exact hx2) (hc2 i hb)
                    have hmod : (z2 i).tmod 64 = z2 i % 64 := Int.tmod_eq_emod_of_nonneg hz2.1
                    obtain ⟨nb, hnb⟩ : ∃ nb, nb = z2 i % 64 + 1 := ⟨_, rfl⟩
                    have hnb1 : 1 ≤ nb ∧ nb ≤ 64 := by omega
                    have hmod2 : (z2 i).tmod 64 = nb - 1 := by omega
                    clear hmod hnb hc2
                    generalize z2 i = zy at *
                    obtain ⟨p1, p2, p3, p4, p5⟩ := HO3.out.one_poll HQL.out nb hnb1
                    rw [HAN.out] at p2 p4 p5
                    have hle := tk_le nb an
                    have hval := tk_val nb an (by omega)
                    obtain ⟨hnb0, hnb64⟩ := hnb1
                    have hkn : (tk nb an : Int) ≤ nb := by rw [hval]; split <;> omega
                    have hkl : (tk nb an : Int) < nb → an - tk nb an = 0 := fun h => by rw [hval] at h; split at h <;> omega
                    have HP2 := Lib.hid p2
                    have HP3 := Lib.hid p3
                    have HP4 := Lib.hid p4
                    have HP5 := Lib.hid p5
                    have HP1 := Lib.hid p1
                    have HNL := H2
                    clear p1 p2 p3 p4 p5 hval H2
                    generalize tk nb an = k at *
                    go_wp2_with fail
                    refine (poll_o HO3.out 0 nb).mono ?_
                    rintro e w4 ⟨⟨AQ, kq, hkq, rfl, _⟩, HO4, _⟩
                    rw [HP2.out] at hkq
                    subst hkq
                    rw [HP1.out]
                    have HO5 := Lib.hid HO4
                    have hw4 := one_waits HP3.out
                    rw [HP5.out] at hw4
                    have HW4 := Lib.hid hw4
                    clear HO4 hw4
                    by_cases hkk : (kq : Int) < nb
                    · have g4 : decide ((kq : Int) < nb) = true := decide_eq_true hkk
                      have g5 : decide (nb < (kq : Int)) = false := decide_eq_false (by omega)
                      have h0 := hkl hkk
                      rw [h0] at HW4
                      have HG4 := Lib.hid g4
                      clear hkl h0
                      go_wp2_with fail
                      refine (waits_o HO5.out 0).mono ?_
                      rintro e w5 ⟨rfl, rfl⟩
                      rw [HW4.out]
                      go_wp2
                      go_roundg (l1 + l2 - (i + 1))
                      case measure => omega
                      case rel => exact ⟨i + 1, _, by omega, by go_num, by rw [HP4.out, HG4.out], HP3.out, HO5.out⟩
                    · have g4 : decide ((kq : Int) < nb) = false := decide_eq_false hkk
                      have g5 : decide (nb < (kq : Int)) = false := decide_eq_false (by omega)
                      have HG4 := Lib.hid g4
                      clear hkl
                      go_wp2
                      go_roundg (l1 + l2 - (i + 1))
                      case measure => omega
                      case rel => exact ⟨i + 1, _, by omega, by go_num, by rw [HP4.out, HG4.out], HP3.out, HO5.out⟩
                  · have g2 : decide (i < l2) = false := decide_eq_false hb
                    go_wp2
                    go_roundg (l1 + l2 - (i + 1))
                    case measure => omega
                    case rel => exact ⟨i + 1, s, by omega, by go_num, by rw [HARM.out], HQL.out, HO3.out⟩
                · have hp' : decide ((0 : Int) < (an : Int)) = false := decide_eq_false (by omega)
                  obtain rfl : m = 0 := by rw [hrl, decide_eq_false hp]; rfl
                  clear hrl
                  go_wp2_with fail
                  refine (waits_o HO3.out 0).mono ?_
                  rintro e w3 ⟨rfl, rfl⟩
                  rw [HW.out]
                  by_cases hb : i < l2
                  · have g2 : decide (i < l2) = true := decide_eq_true hb
                    obtain ⟨x2, rfl, hx2, hc2⟩ := H2.out.2 (by omega)
                    have hz2 := H2.out.1 i
                    have cz2 := later HO3.out.below (a := x2.add i) (by rw [addB]; exact hx2) (hc2 i hb)
                    have hmod : (z2 i).tmod 64 = z2 i % 64 := Int.tmod_eq_emod_of_nonneg hz2.1
                    obtain ⟨nb, hnb⟩ : ∃ nb, nb = z2 i % 64 + 1 := ⟨_, rfl⟩
                    have hnb1 : 1 ≤ nb ∧ nb ≤ 64 := by omega
                    have hmod2 : (z2 i).tmod 64 = nb - 1 := by omega
                    clear hmod hnb hc2
                    generalize z2 i = zy at *
                    obtain ⟨p1, p2, p3, p4, p5⟩ := HO3.out.one_poll HQL.out nb hnb1
                    rw [HAN.out] at p2 p4 p5
                    have hle := tk_le nb an
                    have hval := tk_val nb an (by omega)
                    obtain ⟨hnb0, hnb64⟩ := hnb1
                    have hkn : (tk nb an : Int) ≤ nb := by rw [hval]; split <;> omega
                    have hkl : (tk nb an : Int) < nb → an - tk nb an = 0 := fun h => by rw [hval] at h; split at h <;> omega
                    have HP2 := Lib.hid p2
                    have HP3 := Lib.hid p3
                    have HP4 := Lib.hid p4
                    have HP5 := Lib.hid p5
                    have HP1 := Lib.hid p1
                    have HNL := H2
                    clear p1 p2 p3 p4 p5 hval H2
                    generalize tk nb an = k at *
                    go_wp2_with fail
                    refine (poll_o HO3.out 0 nb).mono ?_
                    rintro e w4 ⟨⟨AQ, kq, hkq, rfl, _⟩, HO4, _⟩
                    rw [HP2.out] at hkq
                    subst hkq
                    rw [HP1.out]
                    have HO5 := Lib.hid HO4
                    have hw4 := one_waits HP3.out
                    rw [HP5.out] at hw4
                    have HW4 := Lib.hid hw4
                    clear HO4 hw4
                    by_cases hkk : (kq : Int) < nb
                    · have g4 : decide ((kq : Int) < nb) = true := decide_eq_true hkk
                      have g5 : decide (nb < (kq : Int)) = false := decide_eq_false (by omega)
                      have h0 := hkl hkk
                      rw [h0] at HW4
                      have HG4 := Lib.hid g4
                      clear hkl h0
                      go_wp2_with fail
                      refine (waits_o HO5.out 0).mono ?_
                      rintro e w5 ⟨rfl, rfl⟩
                      rw [HW4.out]
                      go_wp2
                      go_roundg (l1 + l2 - (i + 1))
                      case measure => omega
                      case rel => exact ⟨i + 1, _, by omega, by go_num, by rw [HP4.out, HG4.out], HP3.out, HO5.out⟩
                    · have g4 : decide ((kq : Int) < nb) = false := decide_eq_false hkk
                      have g5 : decide (nb < (kq : Int)) = false := decide_eq_false (by omega)
                      have HG4 := Lib.hid g4
                      clear hkl
                      go_wp2
                      go_roundg (l1 + l2 - (i + 1))
                      case measure => omega
                      case rel => exact ⟨i + 1, _, by omega, by go_num, by rw [HP4.out, HG4.out], HP3.out, HO5.out⟩
                  · have g2 : decide (i < l2) = false := decide_eq_false hb
                    go_wp2
                    go_roundg (l1 + l2 - (i + 1))
                    case measure => omega
                    case rel => exact ⟨i + 1, s, by omega, by go_num, by rw [HARM.out], HQL.out, HO3.out⟩
        · by_cases hi2 : i < l2
          · have g1 : decide (i < l1) = false := decide_eq_false hi
            have g20 : decide (i < l2) = true := decide_eq_true hi2
            go_wp2_with fail
            obtain ⟨an, han⟩ : ∃ an, (s.qu 0).an = an := ⟨_, rfl⟩
            have hrl := one_raised HQL.out
            have hw := one_waits HQL.out
            unfold Qu.up at hrl
            rw [HARM.out, han] at hrl
            rw [han] at hw
            have HAN := Lib.hid han
            have HW := Lib.hid hw
            clear han hw
            refine (raised_o HOO.out).mono ?_
            rintro e w2 ⟨⟨AR, cR, rfl, _⟩, HO2, _⟩
            have HO3 := Lib.hid HO2
            clear HO2 HOO
            generalize s.raised.length = m at hrl ⊢
            cases arm with
            | false =>
              obtain rfl : m = 0 := hrl
              by_cases hb : i < l2
              · have g2 : decide (i < l2) = true := decide_eq_true hb
                obtain ⟨x2, rfl, hx2, hc2⟩ := H2.out.2 (by omega)
                have hz2 := H2.out.1 i
                have cz2 := later HO3.out.below (a := x2.add i) (by rw [addB]; exact hx2) (hc2 i hb)
                have hmod : (z2 i).tmod 64 = z2 i % 64 := Int.tmod_eq_emod_of_nonneg hz2.1
                obtain ⟨nb, hnb⟩ : ∃ nb, nb = z2 i % 64 + 1 := ⟨_, rfl⟩
                have hnb1 : 1 ≤ nb ∧ nb ≤ 64 := by omega
                have hmod2 : (z2 i).tmod 64 = nb - 1 := by omega
                clear hmod hnb hc2
                generalize z2 i = zy at *
                obtain ⟨p1, p2, p3, p4, p5⟩ := HO3.out.one_poll HQL.out nb hnb1
                rw [HAN.out] at p2 p4 p5
                have hle := tk_le nb an
                have hval := tk_val nb an (by omega)
                obtain ⟨hnb0, hnb64⟩ := hnb1
                have hkn : (tk nb an : Int) ≤ nb := by rw [hval]; split <;> omega
                have hkl : (tk nb an : Int) < nb → an - tk nb an = 0 := fun h => by rw [hval] at h; split at h <;> omega
                have HP2 := Lib.hid p2
                have HP3 := Lib.hid p3
                have HP4 := Lib.hid p4
                have HP5 := Lib.hid p5
                have HP1 := Lib.hid p1
                have HNL := H2
                clear p1 p2 p3 p4 p5 hval H2
                generalize tk nb an = k at *
                go_wp2_with fail
                refine (poll_o HO3.out 0 nb).mono ?_
                rintro e w4 ⟨⟨AQ, kq, hkq, rfl, _⟩, HO4, _⟩
                rw [HP2.out] at hkq
                subst hkq
                rw [HP1.out]
                have HO5 := Lib.hid HO4
                have hw4 := one_waits HP3.out
                rw [HP5.out] at hw4
                have HW4 := Lib.hid hw4
                clear HO4 hw4
                by_cases hkk : (kq : Int) < nb
                · have g4 : decide ((kq : Int) < nb) = true := decide_eq_true hkk
                  have g5 : decide (nb < (kq : Int)) = false := decide_eq_false (by omega)
                  have h0 := hkl hkk
                  rw [h0] at HW4
                  have HG4 := Lib.hid g4
                  clear hkl h0
                  go_wp2_with fail
                  refine (waits_o HO5.out 0).mono ?_
                  rintro e w5 ⟨rfl, rfl⟩
                  rw [HW4.out]
                  go_wp2
                  go_roundg (l1 + l2 - (i + 1))
                  case measure => omega
                  case rel => exact ⟨i + 1, _, by omega, by go_num, by rw [HP4.out, HG4.out], HP3.out, HO5.out⟩
                · have g4 : decide ((kq : Int) < nb) = false := decide_eq_false hkk
                  have g5 : decide (nb < (kq : Int)) = false := decide_eq_false (by omega)
                  have HG4 := Lib.hid g4
                  clear hkl
                  go_wp2
                  go_roundg (l1 + l2 - (i + 1))
                  case measure => omega
                  case rel => exact ⟨i + 1, _, by omega, by go_num, by rw [HP4.out, HG4.out], HP3.out, HO5.out⟩
              · exact absurd hi2 hb
            | true =>
              by_cases hp : 0 < an
              · have hp' : (0 : Int) < (an : Int) := by omega
                obtain rfl : m = 1 := by rw [hrl, decide_eq_true hp]; rfl
                clear hrl
                go_wp2_with fail
                refine (waits_o HO3.out 0).mono ?_
                rintro e w3 ⟨rfl, rfl⟩
                rw [HW.out]
                by_cases hb : i < l2
                · have g2 : decide (i < l2) = true := decide_eq_true hb
                  obtain ⟨x2, rfl, hx2, hc2⟩ := H2.out.2 (by omega)
                  have hz2 := H2.out.1 i
                  have cz2 := later HO3.out.below (a := x2.add i) (by rw [addB]; exact hx2) (hc2 i hb)
                  have hmod : (z2 i).tmod 64 = z2 i % 64 := Int.tmod_eq_emod_of_nonneg hz2.1
                  obtain ⟨nb, hnb⟩ : ∃ nb, nb = z2 i % 64 + 1 := ⟨_, rfl⟩
                  have hnb1 : 1 ≤ nb ∧ nb ≤ 64 := by omega
                  have hmod2 : (z2 i).tmod 64 = nb - 1 := by omega
                  clear hmod hnb hc2
                  generalize z2 i = zy at *
                  obtain ⟨p1, p2, p3, p4, p5⟩ := HO3.out.one_poll HQL.out nb hnb1
                  rw [HAN.out] at p2 p4 p5
                  have hle := tk_le nb an
                  have hval := tk_val nb an (by omega)
                  obtain ⟨hnb0, hnb64⟩ := hnb1
                  have hkn : (tk nb an : Int) ≤ nb := by rw [hval]; split <;> omega
                  have hkl : (tk nb an : Int) < nb → an - tk nb an = 0 := fun h => by rw [hval] at h; split at h <;> omega
                  have HP2 := Lib.hid p2
                  have HP3 := Lib.hid p3
                  have HP4 := Lib.hid p4
                  have HP5 := Lib.hid p5
                  have HP1 := Lib.hid p1
                  have HNL := H2
                  clear p1 p2 p3 p4 p5 hval H2
                  generalize tk nb an = k at *
                  go_wp2_with fail
                  refine (poll_o HO3.out 0 nb).mono ?_
                  rintro e w4 ⟨⟨AQ, kq, hkq, rfl, _⟩, HO4, _⟩
                  rw [HP2.out] at hkq
                  subst hkq
                  rw [HP1.out]
                  have HO5 := Lib.hid HO4
                  have hw4 := one_waits HP3.out
                  rw [HP5.out] at hw4
                  have HW4 := Lib.hid hw4
                  clear HO4 hw4
                  by_cases hkk : (kq : Int) < nb
                  · have g4 : decide ((kq : Int) < nb) = true := decide_eq_true hkk
                    have g5 : decide (nb < (kq : Int)) = false := decide_eq_false (by omega)
                    have h0 := hkl hkk
                    rw [h0] at HW4
                    have HG4 := Lib.hid g4
                    clear hkl h0
                    go_wp2_with fail
                    refine (waits_o HO5.out 0).mono ?_
                    rintro e w5 ⟨rfl, rfl⟩
                    rw [HW4.out]
                    go_wp2
                    go_roundg (l1 + l2 - (i + 1))
                    case measure => omega
                    case rel => exact ⟨i + 1, _, by omega, by go_num, by rw [HP4.out, HG4.out], HP3.out, HO5.out⟩
                  · have g4 : decide ((kq : Int) < nb) = false := decide_eq_false hkk
                    have g5 : decide (nb < (kq : Int)) = false := decide_eq_false (by omega)
                    have HG4 := Lib.hid g4
                    clear hkl
                    go_wp2
                    go_roundg (l1 + l2 - (i + 1))
                    case measure => omega
                    case rel => exact ⟨i + 1, _, by omega, by go_num, by rw [HP4.out, HG4.out], HP3.out, HO5.out⟩
                · exact absurd hi2 hb
              · have hp' : decide ((0 : Int) < (an : Int)) = false := decide_eq_false (by omega)
                obtain rfl : m = 0 := by rw [hrl, decide_eq_false hp]; rfl
                clear hrl
                go_wp2_with fail
                refine (waits_o HO3.out 0).mono ?_
                rintro e w3 ⟨rfl, rfl⟩
                rw [HW.out]
                by_cases hb : i < l2
                · have g2 : decide (i < l2) = true := decide_eq_true hb
                  obtain ⟨x2, rfl, hx2, hc2⟩ := H2.out.2 (by omega)
                  have hz2 := H2.out.1 i
                  have cz2 := later HO3.out.below (a := x2.add i) (by rw [addB]; exact hx2) (hc2 i hb)
                  have hmod : (z2 i).tmod 64 = z2 i % 64 := Int.tmod_eq_emod_of_nonneg hz2.1
                  obtain ⟨nb, hnb⟩ : ∃ nb, nb = z2 i % 64 + 1 := ⟨_, rfl⟩
                  have hnb1 : 1 ≤ nb ∧ nb ≤ 64 := by omega
                  have hmod2 : (z2 i).tmod 64 = nb - 1 := by omega
                  clear hmod hnb hc2
                  generalize z2 i = zy at *
                  obtain ⟨p1, p2, p3, p4, p5⟩ := HO3.out.one_poll HQL.out nb hnb1
                  rw [HAN.out] at p2 p4 p5
                  have hle := tk_le nb an
                  have hval := tk_val nb an (by omega)
                  obtain ⟨hnb0, hnb64⟩ := hnb1
                  have hkn : (tk nb an : Int) ≤ nb := by rw [hval]; split <;> omega
                  have hkl : (tk nb an : Int) < nb → an - tk nb an = 0 := fun h => by rw [hval] at h; split at h <;> omega
                  have HP2 := Lib.hid p2
                  have HP3 := Lib.hid p3
                  have HP4 := Lib.hid p4
                  have HP5 := Lib.hid p5
                  have HP1 := Lib.hid p1
                  have HNL := H2
                  clear p1 p2 p3 p4 p5 hval H2
                  generalize tk nb an = k at *
                  go_wp2_with fail
                  refine (poll_o HO3.out 0 nb).mono ?_
                  rintro e w4 ⟨⟨AQ, kq, hkq, rfl, _⟩, HO4, _⟩
                  rw [HP2.out] at hkq
                  subst hkq
                  rw [HP1.out]
                  have HO5 := Lib.hid HO4
                  have hw4 := one_waits HP3.out
                  rw [HP5.out] at hw4
                  have HW4 := Lib.hid hw4
                  clear HO4 hw4
                  by_cases hkk : (kq : Int) < nb
                  · have g4 : decide ((kq : Int) < nb) = true := decide_eq_true hkk
                    have g5 : decide (nb < (kq : Int)) = false := decide_eq_false (by omega)
                    have h0 := hkl hkk
                    rw [h0] at HW4
                    have HG4 := Lib.hid g4
                    clear hkl h0
                    go_wp2_with fail
                    refine (waits_o HO5.out 0).mono ?_
                    rintro e w5 ⟨rfl, rfl⟩
                    rw [HW4.out]
                    go_wp2
                    go_roundg (l1 + l2 - (i + 1))
                    case measure => omega
                    case rel => exact ⟨i + 1, _, by omega, by go_num, by rw [HP4.out, HG4.out], HP3.out, HO5.out⟩
                  · have g4 : decide ((kq : Int) < nb) = false := decide_eq_false hkk
                    have g5 : decide (nb < (kq : Int)) = false := decide_eq_false (by omega)
                    have HG4 := Lib.hid g4
                    clear hkl
                    go_wp2
                    go_roundg (l1 + l2 - (i + 1))
                    case measure => omega
                    case rel => exact ⟨i + 1, _, by omega, by go_num, by rw [HP4.out, HG4.out], HP3.out, HO5.out⟩
                · exact absurd hi2 hb
          · have g1 : decide (i < l1) = false := decide_eq_false hi
            have g2 : decide (i < l2) = false := decide_eq_false hi2
            go_wp2_with fail
            refine (works_k w wr HOO.out.below).mono ?_
            rintro e w3 ⟨rfl, hb⟩
            go_wp2
            go_ret
            exact ⟨rfl, hb⟩
    · have g1 : decide ((100 : Int) < (l1 : Int)) = false := decide_eq_false (by omega)
      have g2 : decide ((100 : Int) < (l2 : Int)) = true := decide_eq_true (by omega)
      go_enter Try.func5, Try.ntmps5
      go_wp2_with fail
      refine (works_k w w (Below.refl _ _)).mono ?_
      rintro e w3 ⟨rfl, hb⟩
      go_wp2
      go_ret
      exact ⟨rfl, hb⟩
  · go_enter Try.func5, Try.ntmps5
    go_wp2_with fail
    refine (works_k w w (Below.refl _ _)).mono ?_
    rintro e w3 ⟨rfl, hb⟩
    go_wp2
    go_ret
    exact ⟨rfl, hb⟩
end Go.Proofs.Ytbpinkelcbcpjaa.Ni
