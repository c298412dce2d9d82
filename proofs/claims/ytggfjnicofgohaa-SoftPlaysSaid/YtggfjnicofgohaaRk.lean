import Derived.Test.YtggfjnicofgohaaRl
namespace Go.Proofs.Ytggfjnicofgohaa.Sf
open Go.RowKit Blk Go.Proofs.YtggfjnicofgohaaW.PrintWords
set_option linter.unusedVariables false
theorem put_n (s : St) (core hash id : Int) : (s.put core hash id).1.n = s.n := by unfold St.put; split; rfl; split; rfl; split <;> rfl
theorem take_n (s : St) (core : Int) : (s.take core).1.n = s.n := by unfold St.take; split; rfl; split; rfl; split <;> rfl
theorem cores_n (s : St) (on : List Int) : (s.cores on).1.n = s.n := by unfold St.cores; split <;> rfl
section
variable {w0 w : World} {B b b' l k : Nat} {s : St} {r : Rf} {x : Op.Stp} {K : Nat}
theorem tlen (h : Tri w0 B b b' l s r k x w) (hs : Sim s r K) (i : Nat) (hi : i < s.n) (m : Nat) (hm : (r.rows.getD i []).length = m) : Calls Try.prog 15 #[.pointer (some ⟨b, 0, none⟩), .int .i64 i] w fun e w' => e = .returned (.int .i64 m) ∧ w = w' := by
  rw [← hm, ← (sim_len hs i hi).1]
  exact h.two.len i hs.n8
theorem tdrops (h : Tri w0 B b b' l s r k x w) (hs : Sim s r K) (i : Nat) (hi : i < s.n) (m : Int) (hm : r.lost.getD i 0 = m) : Calls Try.prog 21 #[.pointer (some ⟨b, 0, none⟩), .int .i64 i] w fun e w' => e = .returned (.int .u64 m) ∧ w = w' := by
  rw [← hm, ← (sim_len hs i hi).2]
  exact h.two.drops i hs.n8
theorem tlen0 (h : Tri w0 B b b' l s r k x w) (hs : Sim s r K) : Calls Try.prog 15 #[.pointer (some ⟨b, 0, none⟩), .int .i64 (-1)] w fun e w' => e = .returned (.int .i64 0) ∧ w = w' := by
  rw [← (sim_out hs).1]
  exact h.two.len (-1) hs.n8
theorem tdrops0 (h : Tri w0 B b b' l s r k x w) (hs : Sim s r K) (n : Nat) (hn : s.n = n) : Calls Try.prog 21 #[.pointer (some ⟨b, 0, none⟩), .int .i64 n] w fun e w' => e = .returned (.int .u64 0) ∧ w = w' := by
  subst hn
  rw [← (sim_out hs).2]
  exact h.two.drops s.n hs.n8
theorem ttarget (h : Tri w0 B b b' l s r k x w) (hs : Sim s r K) (hash v : Int) (hh : 0 ≤ hash ∧ hash ≤ 4294967295) (hv : r.target hash = v) : Calls Try.prog 13 #[.pointer (some ⟨b, 0, none⟩), .int .u32 hash] w fun e w' => e = .returned (.tuple #[.int .i64 v, .int .i64 0]) ∧ w = w' := by
  rw [← hv, ← hs.target hash]
  exact h.two.target hs hash hh
theorem trtarget (h : Tri w0 B b b' l s r k x w) (hs : Sim s r K) (hash v : Int) (hh : 0 ≤ hash ∧ hash ≤ 4294967295) (hv : r.target hash = v) : Calls Try.prog 18 #[.pointer (some ⟨b', 0, none⟩), .int .u32 hash] w fun e w' => e = .returned (.int .i64 v) ∧ ∃ m, w' = w.drewN m := by
  rw [← hv]
  exact h.two.rtarget hs hash hh
end
theorem two_start {w w1 w2 : World} {b n most : Nat} (HL : Own w b (fresh n most) w1) (hR : ∃ r ro rk l lo lk rv O, RAt w2 w1.heap.size w1.heap.size r ro rk l lo lk rv O (rfresh n most)) (hB : Below w1.heap.size w1 w2) :
    ∃ l, Two w w1.heap.size b w1.heap.size l (fresh n most) (rfresh n most) w2 := by
  obtain ⟨rr, l, rv, O, A⟩ := HL.is
  exact ⟨l, ⟨rr, rv, O, A.move (keeps_below hB)⟩, hR, A.hl.lt, HL.below.size, hB.size, HL.below.trans (hB.mono HL.below.size)⟩
set_option maxHeartbeats 20000000 in
set_option maxRecDepth 100000 in
theorem plays_k (c m : Int) (a : Option Addr) (len cap : Nat) (z : Nat → Op.Stp) (w : World) (hs : Op.Script w a len z) (hl : len ≤ 9223372036854775807) :
    Calls Try.prog 5 #[.int .i64 c, .int .i64 m, .slice a len cap] w fun e w' => e = .returned (.bool true) ∧ Below w.heap.size w w' := by
  have HS := Lib.hid hs
  clear hs
  go_enter Try.func5, Try.ntmps5
  go_wp2_with fail
  refine (heavy_c a len cap z w HS.out hl).mono ?_
  rintro e w1 ⟨t, rfl, rfl, hlt⟩
  cases t with
  | true =>
    clear hlt
    go_wp2_with fail
    refine (works_k w w (Below.refl _ _)).mono ?_
    rintro e w3 ⟨rfl, hb⟩
    go_wp2
    go_ret
    exact ⟨rfl, hb⟩
  | false =>
    obtain ⟨h300, hon⟩ := hlt rfl
    have HON := Lib.hid hon
    clear hlt hon
    by_cases hbad : Bad c m
    · have HB := Lib.hid hbad
      unfold Bad at hbad
      by_cases h1 : c < 1
      rotate_left
      by_cases h2 : 8 < c
      rotate_left
      by_cases h3 : m < 1
      rotate_left
      have h4 : 256 < m := by omega
      all_goals
        go_wp2_with fail
        refine (new_bad c m w HB.out).mono ?_
        rintro e w1 ⟨rfl, rfl⟩
        go_wp2_with fail
        refine (works_k w w (Below.refl _ _)).mono ?_
        rintro e w3 ⟨rfl, hb⟩
        go_wp2
        go_ret
        exact ⟨rfl, hb⟩
    · unfold Bad at hbad
      obtain ⟨n, rfl⟩ := Int.eq_ofNat_of_zero_le (show 0 ≤ c by omega)
      obtain ⟨most, rfl⟩ := Int.eq_ofNat_of_zero_le (show 0 ≤ m by omega)
      have hn : 1 ≤ n ∧ n ≤ 8 := by omega
      have hm : 1 ≤ most ∧ most ≤ 256 := by omega
      clear hbad
      go_wp2_with fail
      refine (new_o n most w w (Below.refl _ _) hn hm).mono ?_
      rintro e w1 ⟨rfl, HL⟩
      go_wp2_with fail
      refine (r_new n most w1 hn).mono ?_
      rintro e w2 ⟨rfl, hR, hB⟩
      obtain ⟨l, HT⟩ := two_start HL hR hB
      have HM := Lib.hid (sim_start n most hn hm)
      clear HL hR hB
      go_wp2
      have hsn : (fresh n most).n = n := rfl
      generalize w.heap.size + 2 = b at HT ⊢
      generalize w1.heap.size = b' at HT ⊢
      generalize fresh n most = s0 at *
      generalize rfresh n most = r0 at *
      go_loopg [10] len (fun g vi wr => ∃ (i : Nat) (s : St) (r : Rf), i + g = len ∧ vi = .int .i64 i ∧ s.n = n ∧ Hid (Sim s r i) ∧ Two w b' b b' l s r wr)
      case atStart => exact ⟨0, s0, r0, by omega, rfl, hsn, HM, HT⟩
      case round =>
        clear HT HM hsn
        obtain ⟨i, s, r, hig, rfl, hsn, HM, HT⟩ := hrel
        by_cases hi : i < len
        · obtain ⟨bb, off, ea, hcell⟩ := HS.out.resolve_left (by omega)
          subst ea
          obtain ⟨hok, k0, k1, k2, k3, k4, kr⟩ := hcell i hi
          have q0 := later HT.below k0
          have q1 := later HT.below k1
          have q2 := later HT.below k2
          have q3 := later HT.below k3
          have q4 := later HT.below k4
          have hra := Lib.hid kr
          have hon := HON.out i hi
          clear k0 k1 k2 k3 k4 kr hcell
          obtain ⟨⟨d, core, hash, id, on, A, cc⟩, hz⟩ : ∃ y, y = z i := ⟨_, rfl⟩
          rw [← hz] at hok q0 q1 q2 q3 q4 hra hon
          obtain ⟨hc, hh, _⟩ := hok
          clear hz
          dsimp only at hc hh hon hra q0 q1 q2 q3 q4
          have HTT : Tri w b' b b' l s r wr.heap.size ⟨d, core, hash, id, on, A, cc⟩ (wr.alloc (.cells #[.int .i64 d, .int .i64 core, .int .u32 hash, .int .u64 id, .slice A on.length cc] 35)) := HT.step ⟨d, core, hash, id, on, A, cc⟩
          clear HT
          by_cases hd : d = 0
          · subst hd
            as_aux_lemma =>
              have hp := HM.out.put (by omega) core hash id hh
              obtain ⟨s', v, e1⟩ : ∃ s' v, s.put core hash id = (s', v) := ⟨_, _, rfl⟩
              obtain ⟨r', v', e2⟩ : ∃ r' v', r.put core hash id = (r', v') := ⟨_, _, rfl⟩
              have hsn' : s'.n = n := by have := put_n s core hash id; rw [e1] at this; exact this.trans hsn
              rw [e1, e2] at hp
              obtain ⟨hv, hM'⟩ := hp
              dsimp only at hv hM'
              subst hv
              have E1 := Lib.hid e1
              have E2 := Lib.hid e2
              have HM' := Lib.hid hM'
              have hi300 : i ≤ 100000 := by omega
              clear e1 e2 hM' hra
              have HT := HTT
              clear HTT
              go_wp2
              have HTd := HT.drew
              generalize wr.alloc (.cells #[.int .i64 0, .int .i64 core, .int .u32 hash, .int .u64 id, .slice A on.length cc] 35) = wy at *
              obtain ⟨y1, y2, y3, y4⟩ := tcells HT
              dsimp only at y1 y2 y3 y4
              go_region_held3 (fun w' => w'.cell? ⟨wr.heap.size, 1, none⟩ = some (.int .i64 core) ∧ w'.cell? ⟨wr.heap.size, 2, none⟩ = some (.int .u32 hash) ∧ w'.cell? ⟨wr.heap.size, 3, none⟩ = some (.int .u64 id)) (exact ⟨by assumption, by assumption, by assumption⟩) (first | (go_at_call 14; refine (tput core hash id (by assumption) HM.out hi300 hh E1.out).mono ?_; rintro e w9 ⟨rfl, HT⟩; obtain ⟨y1, y2, y3, y4⟩ := tcells HT; dsimp only at y1 y2 y3 y4) | (go_at_call 17; refine (trput core hash id (by assumption) HM.out hi300 hh E2.out).mono ?_; rintro e w9 ⟨rfl, HT⟩; obtain ⟨y1, y2, y3, y4⟩ := tcells HT; dsimp only at y1 y2 y3 y4))
              all_goals
                clear y1 y2 y3 y4
                obtain ⟨tv, htv⟩ : ∃ tv, r'.target hash = tv := ⟨_, rfl⟩
                have HTV := Lib.hid htv
                clear htv
                obtain ⟨y1, y2, y3, y4⟩ := tcells HT
                dsimp only at y1 y2 y3 y4
                go_wp2_with fail
                refine (ttarget HT HM'.out hash tv hh HTV.out).mono ?_
                rintro e w10 ⟨rfl, rfl⟩
                go_wp2_with fail
                refine (trtarget HT HM'.out hash tv hh HTV.out).mono ?_
                rintro e w11 ⟨rfl, mm, rfl⟩
                clear y1 y2 y3 y4
                have HT := HT.drewN mm
                generalize World.drewN _ mm = W1 at *
                go_wp2_with fail
                refine (tlen0 HT HM'.out).mono ?_
                rintro e w12 ⟨rfl, rfl⟩
                go_wp2_with fail
                refine (tdrops0 HT HM'.out n hsn').mono ?_
                rintro e w13 ⟨rfl, rfl⟩
                go_wp2
                go_loopg [22] n (fun g vk wq => ∃ (k : Nat), k + g = n ∧ vk = .int .i64 k ∧ Tri w b' b b' l s' r' wr.heap.size ⟨0, core, hash, id, on, A, cc⟩ wq)
                case atStart => exact ⟨0, by omega, rfl, HT⟩
                case round =>
                  clear HT
                  obtain ⟨k, hkg, rfl, HT⟩ := hrel
                  by_cases hk : k < n
                  · obtain ⟨q, ro, rk, l', lo, lk, g1, g2, hrow⟩ := HT.two.rcell
                    have hrn : r'.n = n := HM'.out.n.trans hsn'
                    rw [hrn] at g1 g2 hrow
                    obtain ⟨⟨AA, ca, g3⟩, g4⟩ := hrow k hk
                    clear hrow hrn
                    obtain ⟨ml, hml⟩ : ∃ ml, (r'.rows.getD k []).length = ml := ⟨_, rfl⟩
                    obtain ⟨xl, hxl⟩ : ∃ xl, r'.lost.getD k 0 = xl := ⟨_, rfl⟩
                    rw [hml] at g3
                    rw [hxl] at g4
                    have HML := Lib.hid hml
                    have HXL := Lib.hid hxl
                    have HK := Lib.hid (show k < s'.n by rw [hsn']; exact hk)
                    clear hml hxl
                    have hk2 : (k : Int) < (n : Int) := by omega
                    go_wp2
                    go_quiet ((first | (go_at_call 15; exact quiet_left (tlen (HT.drewN _) HM'.out k HK.out ml HML.out)) | (go_at_call 21; exact quiet_left (tdrops (HT.drewN _) HM'.out k HK.out xl HXL.out))))
                    go_wp2
                    go_roundg (n - (k + 1))
                    case measure => omega
                    case rel => exact ⟨k + 1, by omega, by go_num, HT.drewN _⟩
                  · go_wp2
                    go_roundg (len - (i + 1))
                    case measure => omega
                    case rel => exact ⟨i + 1, s', r', by omega, by go_num, hsn', HM', HT.two⟩
          · by_cases hd3 : d = 3
            · subst hd3
              as_aux_lemma =>
                obtain ⟨tc, htc⟩ : ∃ tc, r.target hash = tc := ⟨_, rfl⟩
                have HTC := Lib.hid htc
                clear htc
                have hp := HM.out.put (by omega) tc hash id hh
                obtain ⟨s', v, e1⟩ : ∃ s' v, s.put tc hash id = (s', v) := ⟨_, _, rfl⟩
                obtain ⟨r', v', e2⟩ : ∃ r' v', r.put tc hash id = (r', v') := ⟨_, _, rfl⟩
                have hsn' : s'.n = n := by have := put_n s tc hash id; rw [e1] at this; exact this.trans hsn
                rw [e1, e2] at hp
                obtain ⟨hv, hM'⟩ := hp
                dsimp only at hv hM'
                subst hv
                have E1 := Lib.hid e1
                have E2 := Lib.hid e2
                have HM' := Lib.hid hM'
                have hi300 : i ≤ 100000 := by omega
                clear e1 e2 hM' hra
                have HT := HTT
                clear HTT
                go_wp2_with fail
                refine (trtarget HT HM.out hash tc hh HTC.out).mono ?_
                rintro e w11 ⟨rfl, mm, rfl⟩
                have HT := HT.drewN mm
                generalize World.drewN _ mm = wy at *
                obtain ⟨y1, y2, y3, y4⟩ := tcells HT
                dsimp only at y1 y2 y3 y4
                go_wp2
                have HTd := HT.drew
                go_region_held3 (fun w' => w'.cell? ⟨wr.heap.size, 1, none⟩ = some (.int .i64 core) ∧ w'.cell? ⟨wr.heap.size, 2, none⟩ = some (.int .u32 hash) ∧ w'.cell? ⟨wr.heap.size, 3, none⟩ = some (.int .u64 id)) (exact ⟨by assumption, by assumption, by assumption⟩) (first | (go_at_call 14; refine (tput tc hash id (by assumption) HM.out hi300 hh E1.out).mono ?_; rintro e w9 ⟨rfl, HT⟩; obtain ⟨y1, y2, y3, y4⟩ := tcells HT; dsimp only at y1 y2 y3 y4) | (go_at_call 17; refine (trput tc hash id (by assumption) HM.out hi300 hh E2.out).mono ?_; rintro e w9 ⟨rfl, HT⟩; obtain ⟨y1, y2, y3, y4⟩ := tcells HT; dsimp only at y1 y2 y3 y4))
                all_goals
                  clear y1 y2 y3 y4
                  obtain ⟨tv, htv⟩ : ∃ tv, r'.target hash = tv := ⟨_, rfl⟩
                  have HTV := Lib.hid htv
                  clear htv
                  obtain ⟨y1, y2, y3, y4⟩ := tcells HT
                  dsimp only at y1 y2 y3 y4
                  go_wp2_with fail
                  refine (ttarget HT HM'.out hash tv hh HTV.out).mono ?_
                  rintro e w10 ⟨rfl, rfl⟩
                  go_wp2_with fail
                  refine (trtarget HT HM'.out hash tv hh HTV.out).mono ?_
                  rintro e w11 ⟨rfl, mm, rfl⟩
                  clear y1 y2 y3 y4
                  have HT := HT.drewN mm
                  generalize World.drewN _ mm = W1 at *
                  go_wp2_with fail
                  refine (tlen0 HT HM'.out).mono ?_
                  rintro e w12 ⟨rfl, rfl⟩
                  go_wp2_with fail
                  refine (tdrops0 HT HM'.out n hsn').mono ?_
                  rintro e w13 ⟨rfl, rfl⟩
                  go_wp2
                  go_loopg [22] n (fun g vk wq => ∃ (k : Nat), k + g = n ∧ vk = .int .i64 k ∧ Tri w b' b b' l s' r' wr.heap.size ⟨3, core, hash, id, on, A, cc⟩ wq)
                  case atStart => exact ⟨0, by omega, rfl, HT⟩
                  case round =>
                    clear HT
                    obtain ⟨k, hkg, rfl, HT⟩ := hrel
                    by_cases hk : k < n
                    · obtain ⟨q, ro, rk, l', lo, lk, g1, g2, hrow⟩ := HT.two.rcell
                      have hrn : r'.n = n := HM'.out.n.trans hsn'
                      rw [hrn] at g1 g2 hrow
                      obtain ⟨⟨AA, ca, g3⟩, g4⟩ := hrow k hk
                      clear hrow hrn
                      obtain ⟨ml, hml⟩ : ∃ ml, (r'.rows.getD k []).length = ml := ⟨_, rfl⟩
                      obtain ⟨xl, hxl⟩ : ∃ xl, r'.lost.getD k 0 = xl := ⟨_, rfl⟩
                      rw [hml] at g3
                      rw [hxl] at g4
                      have HML := Lib.hid hml
                      have HXL := Lib.hid hxl
                      have HK := Lib.hid (show k < s'.n by rw [hsn']; exact hk)
                      clear hml hxl
                      have hk2 : (k : Int) < (n : Int) := by omega
                      go_wp2
                      go_quiet ((first | (go_at_call 15; exact quiet_left (tlen (HT.drewN _) HM'.out k HK.out ml HML.out)) | (go_at_call 21; exact quiet_left (tdrops (HT.drewN _) HM'.out k HK.out xl HXL.out))))
                      go_wp2
                      go_roundg (n - (k + 1))
                      case measure => omega
                      case rel => exact ⟨k + 1, by omega, by go_num, HT.drewN _⟩
                    · go_wp2
                      go_roundg (len - (i + 1))
                      case measure => omega
                      case rel => exact ⟨i + 1, s', r', by omega, by go_num, hsn', HM', HT.two⟩
            · by_cases hd1 : d = 1
              · subst hd1
                as_aux_lemma =>
                  have hp := HM.out.take core
                  obtain ⟨s', v1, v2, v3, e1⟩ : ∃ s' v1 v2 v3, s.take core = (s', v1, v2, v3) := ⟨_, _, _, _, rfl⟩
                  obtain ⟨r', u1, u2, u3, e2⟩ : ∃ r' u1 u2 u3, r.take core = (r', u1, u2, u3) := ⟨_, _, _, _, rfl⟩
                  have hsn' : s'.n = n := by have := take_n s core; rw [e1] at this; exact this.trans hsn
                  rw [e1, e2] at hp
                  obtain ⟨hv, hM'⟩ := hp
                  dsimp only at hv hM'
                  simp only [Prod.mk.injEq] at hv
                  obtain ⟨rfl, rfl, rfl⟩ := hv
                  have E1 := Lib.hid e1
                  have E2 := Lib.hid e2
                  have HM' : Hid (Sim s' r' (i + 1)) := Lib.hid { hM' with lostb := fun k => by have := hM'.lostb k; omega }
                  have hi300 : i ≤ 100000 := by omega
                  clear e1 e2 hM' hra
                  have HT := HTT
                  clear HTT
                  go_wp2_with fail
                  refine (ttake core HT HM.out hi300 E1.out).mono ?_
                  clear HT
                  rintro e w8 ⟨rfl, HT⟩
                  obtain ⟨y1, y2, y3, y4⟩ := tcells HT
                  dsimp only at y1 y2 y3 y4
                  go_wp2_with fail
                  refine (trtake core HT HM.out E2.out).mono ?_
                  clear HT y1 y2 y3 y4
                  rintro e w9 ⟨rfl, HT⟩
                  obtain ⟨tv, htv⟩ : ∃ tv, r'.target hash = tv := ⟨_, rfl⟩
                  have HTV := Lib.hid htv
                  clear htv
                  obtain ⟨y1, y2, y3, y4⟩ := tcells HT
                  dsimp only at y1 y2 y3 y4
                  go_wp2_with fail
                  refine (ttarget HT HM'.out hash tv hh HTV.out).mono ?_
                  rintro e w10 ⟨rfl, rfl⟩
                  go_wp2_with fail
                  refine (trtarget HT HM'.out hash tv hh HTV.out).mono ?_
                  rintro e w11 ⟨rfl, mm, rfl⟩
                  clear y1 y2 y3 y4
                  have HT := HT.drewN mm
                  generalize World.drewN _ mm = W1 at *
                  go_wp2_with fail
                  refine (tlen0 HT HM'.out).mono ?_
                  rintro e w12 ⟨rfl, rfl⟩
                  go_wp2_with fail
                  refine (tdrops0 HT HM'.out n hsn').mono ?_
                  rintro e w13 ⟨rfl, rfl⟩
                  go_wp2
                  go_loopg [22] n (fun g vk wq => ∃ (k : Nat), k + g = n ∧ vk = .int .i64 k ∧ Tri w b' b b' l s' r' wr.heap.size ⟨1, core, hash, id, on, A, cc⟩ wq)
                  case atStart => exact ⟨0, by omega, rfl, HT⟩
                  case round =>
                    clear HT
                    obtain ⟨k, hkg, rfl, HT⟩ := hrel
                    by_cases hk : k < n
                    · obtain ⟨q, ro, rk, l', lo, lk, g1, g2, hrow⟩ := HT.two.rcell
                      have hrn : r'.n = n := HM'.out.n.trans hsn'
                      rw [hrn] at g1 g2 hrow
                      obtain ⟨⟨AA, ca, g3⟩, g4⟩ := hrow k hk
                      clear hrow hrn
                      obtain ⟨ml, hml⟩ : ∃ ml, (r'.rows.getD k []).length = ml := ⟨_, rfl⟩
                      obtain ⟨xl, hxl⟩ : ∃ xl, r'.lost.getD k 0 = xl := ⟨_, rfl⟩
                      rw [hml] at g3
                      rw [hxl] at g4
                      have HML := Lib.hid hml
                      have HXL := Lib.hid hxl
                      have HK := Lib.hid (show k < s'.n by rw [hsn']; exact hk)
                      clear hml hxl
                      have hk2 : (k : Int) < (n : Int) := by omega
                      go_wp2
                      go_quiet ((first | (go_at_call 15; exact quiet_left (tlen (HT.drewN _) HM'.out k HK.out ml HML.out)) | (go_at_call 21; exact quiet_left (tdrops (HT.drewN _) HM'.out k HK.out xl HXL.out))))
                      go_wp2
                      go_roundg (n - (k + 1))
                      case measure => omega
                      case rel => exact ⟨k + 1, by omega, by go_num, HT.drewN _⟩
                    · go_wp2
                      go_roundg (len - (i + 1))
                      case measure => omega
                      case rel => exact ⟨i + 1, s', r', by omega, by go_num, hsn', HM', HT.two⟩
              · by_cases hd2 : d = 2
                · subst hd2
                  by_cases h0 : on.length = 0
                  · obtain rfl : on = [] := List.length_eq_zero_iff.1 h0
                    dsimp only [List.length_nil] at HTT
                    as_aux_lemma =>
                      have hp := HM.out.cores []
                      obtain ⟨s', v, e1⟩ : ∃ s' v, s.cores [] = (s', v) := ⟨_, _, rfl⟩
                      obtain ⟨r', v', e2⟩ : ∃ r' v', r.cores [] = (r', v') := ⟨_, _, rfl⟩
                      have hsn' : s'.n = n := by have := cores_n s []; rw [e1] at this; exact this.trans hsn
                      rw [e1, e2] at hp
                      obtain ⟨hv, hM'⟩ := hp
                      dsimp only at hv hM'
                      subst hv
                      have E1 := Lib.hid e1
                      have E2 := Lib.hid e2
                      have HM' : Hid (Sim s' r' (i + 1)) := Lib.hid { hM' with lostb := fun k => by have := hM'.lostb k; omega }
                      have hn8 : s.n ≤ 8 := HM.out.n8
                      have rn8 : r.n ≤ 8 := by rw [HM.out.n]; exact hn8
                      clear e1 e2 hM'
                      have HT := HTT
                      clear HTT
                      go_wp2
                      have HTd := HT.drew
                      generalize wr.alloc (.cells #[.int .i64 2, .int .i64 core, .int .u32 hash, .int .u64 id, .slice A 0 cc] 35) = wy at *
                      obtain ⟨y1, y2, y3, y4⟩ := tcells HT
                      dsimp only [List.length_nil] at y1 y2 y3 y4
                      go_region_held3 (fun w' => w'.cell? ⟨wr.heap.size, 4, none⟩ = some (.slice A 0 cc)) (assumption) (first | (refine step_copy0 (.tmp 151) rfl rfl rfl A cc (by simp [Act.eval]) ?_) | (go_at_call 11; refine (tcores (by assumption) hn8 none 0 [] (q_nil _ 0 3) (by decide) E1.out).mono ?_; rintro e w9 ⟨rfl, HT⟩; obtain ⟨y1, y2, y3, y4⟩ := tcells HT; dsimp only at y1 y2 y3 y4) | (go_at_call 20; refine (trcores3 (by assumption) rn8 A cc [] (.inl rfl) (by decide) E2.out).mono ?_; rintro e w9 ⟨rfl, HT, HK3⟩; obtain ⟨y1, y2, y3, y4⟩ := tcells HT; dsimp only at y1 y2 y3 y4))
                      all_goals
                        clear y1 y2 y3 y4
                        obtain ⟨tv, htv⟩ : ∃ tv, r'.target hash = tv := ⟨_, rfl⟩
                        have HTV := Lib.hid htv
                        clear htv
                        obtain ⟨y1, y2, y3, y4⟩ := tcells HT
                        dsimp only at y1 y2 y3 y4
                        go_wp2_with fail
                        refine (ttarget HT HM'.out hash tv hh HTV.out).mono ?_
                        rintro e w10 ⟨rfl, rfl⟩
                        go_wp2_with fail
                        refine (trtarget HT HM'.out hash tv hh HTV.out).mono ?_
                        rintro e w11 ⟨rfl, mm, rfl⟩
                        clear y1 y2 y3 y4
                        have HT := HT.drewN mm
                        generalize World.drewN _ mm = W1 at *
                        go_wp2_with fail
                        refine (tlen0 HT HM'.out).mono ?_
                        rintro e w12 ⟨rfl, rfl⟩
                        go_wp2_with fail
                        refine (tdrops0 HT HM'.out n hsn').mono ?_
                        rintro e w13 ⟨rfl, rfl⟩
                        go_wp2
                        go_loopg [22] n (fun g vk wq => ∃ (k : Nat), k + g = n ∧ vk = .int .i64 k ∧ Tri w b' b b' l s' r' wr.heap.size ⟨2, core, hash, id, [], A, cc⟩ wq)
                        case atStart => exact ⟨0, by omega, rfl, HT⟩
                        case round =>
                          clear HT
                          obtain ⟨k, hkg, rfl, HT⟩ := hrel
                          by_cases hk : k < n
                          · obtain ⟨q, ro, rk, l', lo, lk, g1, g2, hrow⟩ := HT.two.rcell
                            have hrn : r'.n = n := HM'.out.n.trans hsn'
                            rw [hrn] at g1 g2 hrow
                            obtain ⟨⟨AA, ca, g3⟩, g4⟩ := hrow k hk
                            clear hrow hrn
                            obtain ⟨ml, hml⟩ : ∃ ml, (r'.rows.getD k []).length = ml := ⟨_, rfl⟩
                            obtain ⟨xl, hxl⟩ : ∃ xl, r'.lost.getD k 0 = xl := ⟨_, rfl⟩
                            rw [hml] at g3
                            rw [hxl] at g4
                            have HML := Lib.hid hml
                            have HXL := Lib.hid hxl
                            have HK := Lib.hid (show k < s'.n by rw [hsn']; exact hk)
                            clear hml hxl
                            have hk2 : (k : Int) < (n : Int) := by omega
                            go_wp2
                            go_quiet ((first | (go_at_call 15; exact quiet_left (tlen (HT.drewN _) HM'.out k HK.out ml HML.out)) | (go_at_call 21; exact quiet_left (tdrops (HT.drewN _) HM'.out k HK.out xl HXL.out))))
                            go_wp2
                            go_roundg (n - (k + 1))
                            case measure => omega
                            case rel => exact ⟨k + 1, by omega, by go_num, HT.drewN _⟩
                          · go_wp2
                            go_roundg (len - (i + 1))
                            case measure => omega
                            case rel => exact ⟨i + 1, s', r', by omega, by go_num, hsn', HM', HT.two⟩
                  · have hon1 : 1 ≤ on.length := by omega
                    have hon2 : on.length ≤ 1000000 := by omega
                    as_aux_lemma =>
                      have hp := HM.out.cores on
                      obtain ⟨s', v, e1⟩ : ∃ s' v, s.cores on = (s', v) := ⟨_, _, rfl⟩
                      obtain ⟨r', v', e2⟩ : ∃ r' v', r.cores on = (r', v') := ⟨_, _, rfl⟩
                      have hsn' : s'.n = n := by have := cores_n s on; rw [e1] at this; exact this.trans hsn
                      rw [e1, e2] at hp
                      obtain ⟨hv, hM'⟩ := hp
                      dsimp only at hv hM'
                      subst hv
                      have E1 := Lib.hid e1
                      have E2 := Lib.hid e2
                      have HM' : Hid (Sim s' r' (i + 1)) := Lib.hid { hM' with lostb := fun k => by have := hM'.lostb k; omega }
                      have hn8 : s.n ≤ 8 := HM.out.n8
                      have rn8 : r.n ≤ 8 := by rw [HM.out.n]; exact hn8
                      clear e1 e2 hM'
                      have HT := HTT
                      clear HTT
                      go_wp2
                      have HTd := HT.drew
                      generalize wr.alloc (.cells #[.int .i64 2, .int .i64 core, .int .u32 hash, .int .u64 id, .slice A on.length cc] 35) = wy at *
                      obtain ⟨y1, y2, y3, y4⟩ := tcells HT
                      dsimp only at y1 y2 y3 y4
                      go_region_held3 (fun w' => w'.cell? ⟨wr.heap.size, 4, none⟩ = some (.slice A on.length cc)) (assumption) (first | (refine step_copy (.tmp 151) rfl rfl rfl A on cc (by simp [Act.eval]) (by assumption) hra.out hon1 hon2 ?_; intro A9 c9 w9 hq HT; obtain ⟨y1, y2, y3, y4⟩ := tcells HT; dsimp only at y1 y2 y3 y4) | (go_at_call 11; refine (tcores (by assumption) hn8 _ _ on (by assumption) hon2 E1.out).mono ?_; rintro e w9 ⟨rfl, HT⟩; obtain ⟨y1, y2, y3, y4⟩ := tcells HT; dsimp only at y1 y2 y3 y4) | (go_at_call 20; refine (trcores3 (by assumption) rn8 A cc on hra.out hon2 E2.out).mono ?_; rintro e w9 ⟨rfl, HT, HK3⟩; (try have hq := HK3.q rfl (by assumption)); obtain ⟨y1, y2, y3, y4⟩ := tcells HT; dsimp only at y1 y2 y3 y4))
                      all_goals
                        clear y1 y2 y3 y4
                        obtain ⟨tv, htv⟩ : ∃ tv, r'.target hash = tv := ⟨_, rfl⟩
                        have HTV := Lib.hid htv
                        clear htv
                        obtain ⟨y1, y2, y3, y4⟩ := tcells HT
                        dsimp only at y1 y2 y3 y4
                        go_wp2_with fail
                        refine (ttarget HT HM'.out hash tv hh HTV.out).mono ?_
                        rintro e w10 ⟨rfl, rfl⟩
                        go_wp2_with fail
                        refine (trtarget HT HM'.out hash tv hh HTV.out).mono ?_
                        rintro e w11 ⟨rfl, mm, rfl⟩
                        clear y1 y2 y3 y4
                        have HT := HT.drewN mm
                        generalize World.drewN _ mm = W1 at *
                        go_wp2_with fail
                        refine (tlen0 HT HM'.out).mono ?_
                        rintro e w12 ⟨rfl, rfl⟩
                        go_wp2_with fail
                        refine (tdrops0 HT HM'.out n hsn').mono ?_
                        rintro e w13 ⟨rfl, rfl⟩
                        go_wp2
                        go_loopg [22] n (fun g vk wq => ∃ (k : Nat), k + g = n ∧ vk = .int .i64 k ∧ Tri w b' b b' l s' r' wr.heap.size ⟨2, core, hash, id, on, A, cc⟩ wq)
                        case atStart => exact ⟨0, by omega, rfl, HT⟩
                        case round =>
                          clear HT
                          obtain ⟨k, hkg, rfl, HT⟩ := hrel
                          by_cases hk : k < n
                          · obtain ⟨q, ro, rk, l', lo, lk, g1, g2, hrow⟩ := HT.two.rcell
                            have hrn : r'.n = n := HM'.out.n.trans hsn'
                            rw [hrn] at g1 g2 hrow
                            obtain ⟨⟨AA, ca, g3⟩, g4⟩ := hrow k hk
                            clear hrow hrn
                            obtain ⟨ml, hml⟩ : ∃ ml, (r'.rows.getD k []).length = ml := ⟨_, rfl⟩
                            obtain ⟨xl, hxl⟩ : ∃ xl, r'.lost.getD k 0 = xl := ⟨_, rfl⟩
                            rw [hml] at g3
                            rw [hxl] at g4
                            have HML := Lib.hid hml
                            have HXL := Lib.hid hxl
                            have HK := Lib.hid (show k < s'.n by rw [hsn']; exact hk)
                            clear hml hxl
                            have hk2 : (k : Int) < (n : Int) := by omega
                            go_wp2
                            go_quiet ((first | (go_at_call 15; exact quiet_left (tlen (HT.drewN _) HM'.out k HK.out ml HML.out)) | (go_at_call 21; exact quiet_left (tdrops (HT.drewN _) HM'.out k HK.out xl HXL.out))))
                            go_wp2
                            go_roundg (n - (k + 1))
                            case measure => omega
                            case rel => exact ⟨k + 1, by omega, by go_num, HT.drewN _⟩
                          · go_wp2
                            go_roundg (len - (i + 1))
                            case measure => omega
                            case rel => exact ⟨i + 1, s', r', by omega, by go_num, hsn', HM', HT.two⟩
                · skip
                  as_aux_lemma =>
                    have b0 : (d == 0) = false := beq_eq_false_iff_ne.2 hd
                    have b1 : (d == 1) = false := beq_eq_false_iff_ne.2 hd1
                    have b2 : (d == 2) = false := beq_eq_false_iff_ne.2 hd2
                    have b3 : (d == 3) = false := beq_eq_false_iff_ne.2 hd3
                    obtain ⟨s', hs'⟩ : ∃ s', s' = s := ⟨_, rfl⟩
                    obtain ⟨r', hr'⟩ : ∃ r', r' = r := ⟨_, rfl⟩
                    rw [← hs'] at hsn HM HTT
                    rw [← hr'] at HM HTT
                    have hsn' := hsn
                    have HM' : Hid (Sim s' r' (i + 1)) := Lib.hid { HM.out with lostb := fun k => by have := HM.out.lostb k; omega }
                    clear hs' hr' hsn HM hra
                    have HT := HTT
                    clear HTT
                    go_wp2_with fail
                    obtain ⟨tv, htv⟩ : ∃ tv, r'.target hash = tv := ⟨_, rfl⟩
                    have HTV := Lib.hid htv
                    clear htv
                    refine (ttarget HT HM'.out hash tv hh HTV.out).mono ?_
                    rintro e w10 ⟨rfl, rfl⟩
                    go_wp2_with fail
                    refine (trtarget HT HM'.out hash tv hh HTV.out).mono ?_
                    rintro e w11 ⟨rfl, mm, rfl⟩
                    have HT := HT.drewN mm
                    generalize World.drewN _ mm = W1 at *
                    go_wp2_with fail
                    refine (tlen0 HT HM'.out).mono ?_
                    rintro e w12 ⟨rfl, rfl⟩
                    go_wp2_with fail
                    refine (tdrops0 HT HM'.out n hsn').mono ?_
                    rintro e w13 ⟨rfl, rfl⟩
                    go_wp2
                    go_loopg [22] n (fun g vk wq => ∃ (k : Nat), k + g = n ∧ vk = .int .i64 k ∧ Tri w b' b b' l s' r' wr.heap.size ⟨d, core, hash, id, on, A, cc⟩ wq)
                    case atStart => exact ⟨0, by omega, rfl, HT⟩
                    case round =>
                      clear HT
                      obtain ⟨k, hkg, rfl, HT⟩ := hrel
                      by_cases hk : k < n
                      · obtain ⟨q, ro, rk, l', lo, lk, g1, g2, hrow⟩ := HT.two.rcell
                        have hrn : r'.n = n := HM'.out.n.trans hsn'
                        rw [hrn] at g1 g2 hrow
                        obtain ⟨⟨AA, ca, g3⟩, g4⟩ := hrow k hk
                        clear hrow hrn
                        obtain ⟨ml, hml⟩ : ∃ ml, (r'.rows.getD k []).length = ml := ⟨_, rfl⟩
                        obtain ⟨xl, hxl⟩ : ∃ xl, r'.lost.getD k 0 = xl := ⟨_, rfl⟩
                        rw [hml] at g3
                        rw [hxl] at g4
                        have HML := Lib.hid hml
                        have HXL := Lib.hid hxl
                        have HK := Lib.hid (show k < s'.n by rw [hsn']; exact hk)
                        clear hml hxl
                        have hk2 : (k : Int) < (n : Int) := by omega
                        go_wp2
                        go_quiet ((first | (go_at_call 15; exact quiet_left (tlen (HT.drewN _) HM'.out k HK.out ml HML.out)) | (go_at_call 21; exact quiet_left (tdrops (HT.drewN _) HM'.out k HK.out xl HXL.out))))
                        go_wp2
                        go_roundg (n - (k + 1))
                        case measure => omega
                        case rel => exact ⟨k + 1, by omega, by go_num, HT.drewN _⟩
                      · go_wp2
                        go_roundg (len - (i + 1))
                        case measure => omega
                        case rel => exact ⟨i + 1, s', r', by omega, by go_num, hsn', HM', HT.two⟩
        · go_wp2_with fail
          refine (works_k w wr HT.below).mono ?_
          rintro e w3 ⟨rfl, hb⟩
          go_wp2
          go_ret
          exact ⟨rfl, hb⟩
end Go.Proofs.Ytggfjnicofgohaa.Sf
