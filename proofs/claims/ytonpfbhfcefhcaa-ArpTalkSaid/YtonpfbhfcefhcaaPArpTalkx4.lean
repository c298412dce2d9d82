-- Laid by a program of this session: the print tool's way, with this session's own walks of some functions laid in.
import Derived.Test.YtonpfbhfcefhcaaPArpTalkx0
import Derived.Test.YtonpfbhfcefhcaaPArpTalkx2
import Derived.Test.YtonpfbhfcefhcaaPArpTalkx3
namespace Go.Proofs.Ytonpfbhfcefhcaa.PArpTalk
open Go.RowKit Go.Proofs.YtonpfbhfcefhcaaW.PrintWords Go.Proofs.YtonpfbhfcefhcaaW.PrintLast Go.Proofs.YtonpfbhfcefhcaaW.PrintMore
attribute [local go_sem] max2_int min2_int max_two min_two max_three min_three max_four min_four   -- for this text's walks alone
set_option linter.unusedVariables false
set_option linter.unusedSimpArgs false

/-! ### stevedorelaw08_ArpTalk: function 6 -/
def stevedorelaw08_ArpTalk.l0 : Nat → Int → Int → Int → Int → Bool → Bool → Int → Int → Int → Int → Int → Int → Int → Int → Int → Int → Int → Int → Int → Int → Int → Int → Option (Bool)
  | 0, _, _, _, _, _, _, _, _, _, _, _, _, _, _, _, _, _, _, _, _, _, _ => none
  | k + 1, x0, x1, x2, x3, x11, x13, x15, x181000, x181001, x181002, x181003, x181004, x188000, x188001, x188002, x188003, x188004, x201000, x201001, x201002, x201003, x201004 => if x15 < 3 then ((some (([(⟨x181000, x181001, x181002, x181003, x181004⟩ : S27), (⟨x188000, x188001, x188002, x188003, x188004⟩ : S27), (⟨x201000, x201001, x201002, x201003, x201004⟩ : S27)] : List (S27)) : List (S27))).bind fun y201 => (if 0 ≤ x15 then (if x15 < (y201.length : Int) then ((arp_Encode.f k ((rd_T27 y201 x15).f0) ((rd_T27 y201 x15).f1) ((rd_T27 y201 x15).f2) ((rd_T27 y201 x15).f3) ((rd_T27 y201 x15).f4)).bind fun bt205 => (if bt205.2 = 0 then (stevedorelaw08_ArpTalk.l0 k x0 x1 x2 x3 x11 x13 (wrap64 (x15 + 1)) x181000 x181001 x181002 x181003 x181004 x188000 x188001 x188002 x188003 x188004 x201000 x201001 x201002 x201003 x201004) else (some false))) else (none)) else (none))) else (if x11 = true then (if x13 = true then (some false) else (if x188002 = x3 then (if x188001 = x1 then (if x188003 = x0 then (if x188004 = x2 then (if x181002 = x2 then (if x181004 = x3 then (if x181001 = x0 then (if x201002 = x201004 then (if x201001 = x0 then ((stevedorelaw08_alive.f).bind fun t207 => (some t207)) else (some false)) else (some false)) else (some false)) else (some false)) else (some false)) else (some false)) else (some false)) else (some false)) else (some false))) else (some false))
def stevedorelaw08_ArpTalk.f (k : Nat) (a0 : Int) (a1 : Int) (a2 : Int) (a3 : Int) : Option (Bool) := (arp_Ask.f (Go.bits .and .u64 a0 281474976710655) a2 a3).bind fun bt175 => ((arp_Tell.f bt175.1 bt175.2.1 bt175.2.2.1 bt175.2.2.2.1 bt175.2.2.2.2 (Go.bits .and .u64 a1 281474976710655)).bind fun bt181 => ((arp_Tell.f bt181.1 bt181.2.1 bt181.2.2.1 bt181.2.2.2.1 bt181.2.2.2.2.1 (Go.bits .and .u64 a0 281474976710655)).bind fun bt188 => ((arp_Call.f (Go.bits .and .u64 a0 281474976710655) a2).bind fun bt195 => (stevedorelaw08_ArpTalk.l0 k (Go.bits .and .u64 a0 281474976710655) (Go.bits .and .u64 a1 281474976710655) a2 a3 bt181.2.2.2.2.2 bt188.2.2.2.2.2 0 bt175.1 bt175.2.1 bt175.2.2.1 bt175.2.2.2.1 bt175.2.2.2.2 bt181.1 bt181.2.1 bt181.2.2.1 bt181.2.2.2.1 bt181.2.2.2.2.1 bt195.1 bt195.2.1 bt195.2.2.1 bt195.2.2.2.1 bt195.2.2.2.2))))
theorem stevedorelaw08_ArpTalk.mono_l : ∀ k, (∀ y0 y1 y2 y3 y4 y5 y6 y7 y8 y9 y10 y11 y12 y13 y14 y15 y16 y17 y18 y19 y20 y21, LeO (stevedorelaw08_ArpTalk.l0 k y0 y1 y2 y3 y4 y5 y6 y7 y8 y9 y10 y11 y12 y13 y14 y15 y16 y17 y18 y19 y20 y21) (stevedorelaw08_ArpTalk.l0 (k + 1) y0 y1 y2 y3 y4 y5 y6 y7 y8 y9 y10 y11 y12 y13 y14 y15 y16 y17 y18 y19 y20 y21))
  | 0 => fun _ _ _ _ _ _ _ _ _ _ _ _ _ _ _ _ _ _ _ _ _ _ r h => by simp [stevedorelaw08_ArpTalk.l0] at h
  | k + 1 => by
    have ih0 := stevedorelaw08_ArpTalk.mono_l k
    · intro y0 y1 y2 y3 y4 y5 y6 y7 y8 y9 y10 y11 y12 y13 y14 y15 y16 y17 y18 y19 y20 y21
      unfold stevedorelaw08_ArpTalk.l0
      repeat' first
      | (with_reducible exact ih0 _ _ _ _ _ _ _ _ _ _ _ _ _ _ _ _ _ _ _ _ _ _)
      | (with_reducible exact arp_Encode.mono _ _ _ _ _ _)
      | (with_reducible exact LeO.refl _)
      | (with_reducible exact LeO.none _)
      | (with_reducible refine LeO.ite ?_ ?_)
      | (with_reducible refine LeO.bind ?_ (fun _ => ?_))
      | exact ih0 _ _ _ _ _ _ _ _ _ _ _ _ _ _ _ _ _ _ _ _ _ _
      | exact arp_Encode.mono _ _ _ _ _ _
      | exact LeO.none _
      | refine LeO.ite ?_ ?_
      | refine LeO.bind ?_ (fun _ => ?_)
theorem stevedorelaw08_ArpTalk.mono : ∀ a0 a1 a2 a3 k, LeO (stevedorelaw08_ArpTalk.f k a0 a1 a2 a3) (stevedorelaw08_ArpTalk.f (k + 1) a0 a1 a2 a3) := by
  intro a0 a1 a2 a3 k
  have ih0 := stevedorelaw08_ArpTalk.mono_l k
  unfold stevedorelaw08_ArpTalk.f
  repeat' first
      | (with_reducible exact ih0 _ _ _ _ _ _ _ _ _ _ _ _ _ _ _ _ _ _ _ _ _ _)
      | (with_reducible exact arp_Encode.mono _ _ _ _ _ _)
      | (with_reducible exact LeO.refl _)
      | (with_reducible exact LeO.none _)
      | (with_reducible refine LeO.ite ?_ ?_)
      | (with_reducible refine LeO.bind ?_ (fun _ => ?_))
      | exact ih0 _ _ _ _ _ _ _ _ _ _ _ _ _ _ _ _ _ _ _ _ _ _
      | exact arp_Encode.mono _ _ _ _ _ _
      | exact LeO.none _
      | refine LeO.ite ?_ ?_
      | refine LeO.bind ?_ (fun _ => ?_)
set_option maxHeartbeats 8000000 in
set_option maxRecDepth 100000 in
theorem stevedorelaw08_ArpTalk.calls (k : Nat) (a0 : Int) (a1 : Int) (a2 : Int) (a3 : Int) (r : Bool) (w : World) (h : stevedorelaw08_ArpTalk.f k a0 a1 a2 a3 = some r) :
    Calls Try.prog 6 #[.int .u64 a0, .int .u64 a1, .int .u32 a2, .int .u32 a3] w fun e w' => e = .returned (.bool r) ∧ Below w.heap.size w w' := by
  have hu27 := Try.underlying27
  have HB := Aside0.mk (Below.refl w.heap.size w)
  have H : ((arp_Ask.f (Go.bits .and .u64 a0 281474976710655) a2 a3).bind fun bt175 => ((arp_Tell.f bt175.1 bt175.2.1 bt175.2.2.1 bt175.2.2.2.1 bt175.2.2.2.2 (Go.bits .and .u64 a1 281474976710655)).bind fun bt181 => ((arp_Tell.f bt181.1 bt181.2.1 bt181.2.2.1 bt181.2.2.2.1 bt181.2.2.2.2.1 (Go.bits .and .u64 a0 281474976710655)).bind fun bt188 => ((arp_Call.f (Go.bits .and .u64 a0 281474976710655) a2).bind fun bt195 => (stevedorelaw08_ArpTalk.l0 k (Go.bits .and .u64 a0 281474976710655) (Go.bits .and .u64 a1 281474976710655) a2 a3 bt181.2.2.2.2.2 bt188.2.2.2.2.2 0 bt175.1 bt175.2.1 bt175.2.2.1 bt175.2.2.2.1 bt175.2.2.2.2 bt181.1 bt181.2.1 bt181.2.2.1 bt181.2.2.2.1 bt181.2.2.2.2.1 bt195.1 bt195.2.1 bt195.2.2.1 bt195.2.2.2.1 bt195.2.2.2.2))))) = some r := h
  clear h
  replace H := Option.bind_eq_some_iff.mp H
  obtain ⟨⟨t175, t176, t177, t178, t179⟩, A50, H⟩ := H
  replace H : ((arp_Tell.f t175 t176 t177 t178 t179 (Go.bits .and .u64 a1 281474976710655)).bind fun bt181 => ((arp_Tell.f bt181.1 bt181.2.1 bt181.2.2.1 bt181.2.2.2.1 bt181.2.2.2.2.1 (Go.bits .and .u64 a0 281474976710655)).bind fun bt188 => ((arp_Call.f (Go.bits .and .u64 a0 281474976710655) a2).bind fun bt195 => (stevedorelaw08_ArpTalk.l0 k (Go.bits .and .u64 a0 281474976710655) (Go.bits .and .u64 a1 281474976710655) a2 a3 bt181.2.2.2.2.2 bt188.2.2.2.2.2 0 t175 t176 t177 t178 t179 bt181.1 bt181.2.1 bt181.2.2.1 bt181.2.2.2.1 bt181.2.2.2.2.1 bt195.1 bt195.2.1 bt195.2.2.1 bt195.2.2.2.1 bt195.2.2.2.2)))) = some r := H
  have A5 := Aside0.mk A50
  clear A50
  replace H := Option.bind_eq_some_iff.mp H
  obtain ⟨⟨t181, t182, t183, t184, t185, t186⟩, A60, H⟩ := H
  replace H : ((arp_Tell.f t181 t182 t183 t184 t185 (Go.bits .and .u64 a0 281474976710655)).bind fun bt188 => ((arp_Call.f (Go.bits .and .u64 a0 281474976710655) a2).bind fun bt195 => (stevedorelaw08_ArpTalk.l0 k (Go.bits .and .u64 a0 281474976710655) (Go.bits .and .u64 a1 281474976710655) a2 a3 t186 bt188.2.2.2.2.2 0 t175 t176 t177 t178 t179 t181 t182 t183 t184 t185 bt195.1 bt195.2.1 bt195.2.2.1 bt195.2.2.2.1 bt195.2.2.2.2))) = some r := H
  have A6 := Aside0.mk A60
  clear A60
  replace H := Option.bind_eq_some_iff.mp H
  obtain ⟨⟨t188, t189, t190, t191, t192, t193⟩, A70, H⟩ := H
  replace H : ((arp_Call.f (Go.bits .and .u64 a0 281474976710655) a2).bind fun bt195 => (stevedorelaw08_ArpTalk.l0 k (Go.bits .and .u64 a0 281474976710655) (Go.bits .and .u64 a1 281474976710655) a2 a3 t186 t193 0 t175 t176 t177 t178 t179 t181 t182 t183 t184 t185 bt195.1 bt195.2.1 bt195.2.2.1 bt195.2.2.2.1 bt195.2.2.2.2)) = some r := H
  have A7 := Aside0.mk A70
  clear A70
  replace H := Option.bind_eq_some_iff.mp H
  obtain ⟨⟨t195, t196, t197, t198, t199⟩, A80, H⟩ := H
  replace H : (stevedorelaw08_ArpTalk.l0 k (Go.bits .and .u64 a0 281474976710655) (Go.bits .and .u64 a1 281474976710655) a2 a3 t186 t193 0 t175 t176 t177 t178 t179 t181 t182 t183 t184 t185 t195 t196 t197 t198 t199) = some r := H
  have A8 := Aside0.mk A80
  clear A80
  have H' := Aside0.mk H
  clear H
  go_enter Try.func6, Try.ntmps6
  go_wp2_with (first | ((with_reducible refine gate_callee (f := 14) rfl ?_); refine goesL_ (some 25) rfl rfl Try.func14 (by kernel_rfl) rfl #[.int .u64 (Go.bits .and .u64 a0 281474976710655), .int .u32 a2, .int .u32 a3] rfl (by (try simp only [List.map_toArray, List.map_cons, List.map_nil]); first | done | rfl | (simp only [List.length_drop, List.length_take]; rfl)) ?_; (with_reducible refine (arp_Ask.calls (Go.bits .and .u64 a0 281474976710655) a2 a3 t175 t176 t177 t178 t179 _ A5.out).mono ?_); rintro e w9 ⟨rfl, hb⟩; refine ⟨_, rfl, ?_⟩; have n0_ := Aside0.mk (below_step (by repeat (first | (with_reducible first | exact HB.out | apply below_alloc | apply pw_below_drewN | apply below_drew1) | exact HB.out)) hb); clear HB; have HB := n0_; clear n0_; (try clear hb); (try clear hb2); (try clear hk); (try clear hi)) | ((with_reducible refine gate_dst (N := 9) rfl ?_); refine box_event ?hg (N := 9) ?hd (cs := #[.int .u16 0, .int .u64 0, .int .u32 0, .int .u64 0, .int .u32 0]) (t := 27) ?hr ?_; (case hd => rfl); (case hg => rfl); (case hr => first | (go_simp; done) | (go_simp; rfl)); intro gb180 hg w10 hbox hb; have n0_ := Aside0.mk (below_step (by repeat (first | (with_reducible first | exact HB.out | apply below_alloc | apply pw_below_drewN | apply below_drew1) | exact HB.out)) hb); have n1_ := Aside0.mk (hbox); have n2_ := Aside0.mk ((by rw [hg]; exact (below_size (by repeat (first | (with_reducible first | exact HB.out | apply below_alloc | apply pw_below_drewN | apply below_drew1) | exact HB.out))) : w.heap.size ≤ gb180)); have n3_ := Aside0.mk ((by rw [hg]; exact (below_size (by repeat (first | (with_reducible first | exact HB.out | apply below_alloc | apply pw_below_drewN | apply below_drew1) | exact HB.out))) : w.heap.size ≤ gb180)); clear HB; have HB := n0_; have BK180 := n1_; have GW180 := n2_; have GE180 := n3_; clear n0_ n1_ n2_ n3_; clear hb hbox hg; have hcz11_0 : w10.cell? ⟨gb180, 0, none⟩ = some (.int .u16 0) := (blk_cell BK180.out 0).trans rfl; have hcz11_1 : w10.cell? ⟨gb180, 1, none⟩ = some (.int .u64 0) := (blk_cell BK180.out 1).trans rfl; have hcz11_2 : w10.cell? ⟨gb180, 2, none⟩ = some (.int .u32 0) := (blk_cell BK180.out 2).trans rfl; have hcz11_3 : w10.cell? ⟨gb180, 3, none⟩ = some (.int .u64 0) := (blk_cell BK180.out 3).trans rfl; have hcz11_4 : w10.cell? ⟨gb180, 4, none⟩ = some (.int .u32 0) := (blk_cell BK180.out 4).trans rfl; have hfz11_0 := blk_frozen BK180.out 0; have hfz11_1 := blk_frozen BK180.out 1; have hfz11_2 := blk_frozen BK180.out 2; have hfz11_3 := blk_frozen BK180.out 3; have hfz11_4 := blk_frozen BK180.out 4) | ((with_reducible refine gate_callee (f := 12) rfl ?_); refine goesL_ (some 29) rfl rfl Try.func12 (by kernel_rfl) rfl #[.agg #[.int .u16 t175, .int .u64 t176, .int .u32 t177, .int .u64 t178, .int .u32 t179], .int .u64 (Go.bits .and .u64 a1 281474976710655)] rfl (by (try simp only [List.map_toArray, List.map_cons, List.map_nil]); first | done | rfl | (simp only [List.length_drop, List.length_take]; rfl)) ?_; (with_reducible refine (arp_Tell.calls t175 t176 t177 t178 t179 (Go.bits .and .u64 a1 281474976710655) t181 t182 t183 t184 t185 t186 _ A6.out).mono ?_); rintro e w12 ⟨rfl, hb⟩; refine ⟨_, rfl, ?_⟩; have n0_ := Aside0.mk (blk_below (g := gb180) (o := .cells #[.int .u16 t175, .int .u64 t176, .int .u32 t177, .int .u64 t178, .int .u32 t179] 27 (0, 0)) (by (with_reducible repeat (first | refine blk_drewN ?_ _ | refine blk_drew ?_ | refine blk_alloc ?_ _)); refine blk_put (cs := #[.int .u16 t175, .int .u64 t176, .int .u32 t177, .int .u64 t178, .int .u32 0]) ?_ 4 _ rfl; (with_reducible repeat (first | refine blk_drewN ?_ _ | refine blk_drew ?_ | refine blk_alloc ?_ _)); refine blk_put (cs := #[.int .u16 t175, .int .u64 t176, .int .u32 t177, .int .u64 0, .int .u32 0]) ?_ 3 _ rfl; (with_reducible repeat (first | refine blk_drewN ?_ _ | refine blk_drew ?_ | refine blk_alloc ?_ _)); refine blk_put (cs := #[.int .u16 t175, .int .u64 t176, .int .u32 0, .int .u64 0, .int .u32 0]) ?_ 2 _ rfl; (with_reducible repeat (first | refine blk_drewN ?_ _ | refine blk_drew ?_ | refine blk_alloc ?_ _)); refine blk_put (cs := #[.int .u16 t175, .int .u64 0, .int .u32 0, .int .u64 0, .int .u32 0]) ?_ 1 _ rfl; (with_reducible repeat (first | refine blk_drewN ?_ _ | refine blk_drew ?_ | refine blk_alloc ?_ _)); refine blk_put (cs := #[.int .u16 0, .int .u64 0, .int .u32 0, .int .u64 0, .int .u32 0]) ?_ 0 _ rfl; (with_reducible repeat (first | refine blk_drewN ?_ _ | refine blk_drew ?_ | refine blk_alloc ?_ _)); exact BK180.out) hb); have n1_ := Aside0.mk (below_step (by repeat (first | (with_reducible first | exact HB.out | apply below_alloc | apply pw_below_drewN | apply below_drew1 | refine below_set ?_ GE180.out) | exact HB.out)) hb); clear BK180; clear HB; have BK180 := n0_; have HB := n1_; clear n0_ n1_; (try clear hb); (try clear hb2); (try clear hk); (try clear hi)) | ((with_reducible refine gate_dst (N := 10) rfl ?_); refine box_event ?hg (N := 10) ?hd (cs := #[.int .u16 0, .int .u64 0, .int .u32 0, .int .u64 0, .int .u32 0]) (t := 27) ?hr ?_; (case hd => rfl); (case hg => rfl); (case hr => first | (go_simp; done) | (go_simp; rfl)); intro gb187 hg w13 hbox hb; have n0_ := Aside0.mk (blk_below (g := gb180) (o := .cells #[.int .u16 t175, .int .u64 t176, .int .u32 t177, .int .u64 t178, .int .u32 t179] 27 (0, 0)) (by (with_reducible repeat (first | refine blk_drewN ?_ _ | refine blk_drew ?_ | refine blk_alloc ?_ _)); exact BK180.out) hb); have n1_ := Aside0.mk (below_step (by repeat (first | (with_reducible first | exact HB.out | apply below_alloc | apply pw_below_drewN | apply below_drew1 | refine below_set ?_ GE180.out) | exact HB.out)) hb); have n2_ := Aside0.mk (hbox); have n3_ := Aside0.mk ((by rw [hg]; exact (below_size (by repeat (first | (with_reducible first | exact HB.out | apply below_alloc | apply pw_below_drewN | apply below_drew1 | refine below_set ?_ GE180.out) | exact HB.out))) : w.heap.size ≤ gb187)); have n4_ := Aside0.mk ((by rw [hg]; exact (below_size (by repeat (first | (with_reducible first | exact HB.out | apply below_alloc | apply pw_below_drewN | apply below_drew1 | refine below_set ?_ GE180.out) | exact HB.out))) : w.heap.size ≤ gb187)); have n5_ := Aside0.mk ((by rw [hg]; exact Nat.ne_of_lt (blk_lt (g := gb180) (o := .cells #[.int .u16 t175, .int .u64 t176, .int .u32 t177, .int .u64 t178, .int .u32 t179] 27 (0, 0)) (by (with_reducible repeat (first | refine blk_drewN ?_ _ | refine blk_drew ?_ | refine blk_alloc ?_ _)); exact BK180.out)) : gb180 ≠ gb187)); have n6_ := Aside0.mk ((by rw [hg]; exact Nat.ne_of_gt (blk_lt (g := gb180) (o := .cells #[.int .u16 t175, .int .u64 t176, .int .u32 t177, .int .u64 t178, .int .u32 t179] 27 (0, 0)) (by (with_reducible repeat (first | refine blk_drewN ?_ _ | refine blk_drew ?_ | refine blk_alloc ?_ _)); exact BK180.out)) : gb187 ≠ gb180)); clear BK180; clear HB; have BK180 := n0_; have HB := n1_; have BK187 := n2_; have GW187 := n3_; have GE187 := n4_; have NB180_187 := n5_; have NB187_180 := n6_; clear n0_ n1_ n2_ n3_ n4_ n5_ n6_; clear hb hbox hg; have hnb14 := NB187_180.out; have hnc14 := NB180_187.out; have hcz15_0 : w13.cell? ⟨gb187, 0, none⟩ = some (.int .u16 0) := (blk_cell BK187.out 0).trans rfl; have hcz15_1 : w13.cell? ⟨gb187, 1, none⟩ = some (.int .u64 0) := (blk_cell BK187.out 1).trans rfl; have hcz15_2 : w13.cell? ⟨gb187, 2, none⟩ = some (.int .u32 0) := (blk_cell BK187.out 2).trans rfl; have hcz15_3 : w13.cell? ⟨gb187, 3, none⟩ = some (.int .u64 0) := (blk_cell BK187.out 3).trans rfl; have hcz15_4 : w13.cell? ⟨gb187, 4, none⟩ = some (.int .u32 0) := (blk_cell BK187.out 4).trans rfl; have hfz15_0 := blk_frozen BK187.out 0; have hfz15_1 := blk_frozen BK187.out 1; have hfz15_2 := blk_frozen BK187.out 2; have hfz15_3 := blk_frozen BK187.out 3; have hfz15_4 := blk_frozen BK187.out 4) | ((with_reducible refine gate_callee (f := 12) rfl ?_); refine goesL_ (some 35) rfl rfl Try.func12 (by kernel_rfl) rfl #[.agg #[.int .u16 t181, .int .u64 t182, .int .u32 t183, .int .u64 t184, .int .u32 t185], .int .u64 (Go.bits .and .u64 a0 281474976710655)] rfl (by (try simp only [List.map_toArray, List.map_cons, List.map_nil]); first | done | rfl | (simp only [List.length_drop, List.length_take]; rfl)) ?_; (with_reducible refine (arp_Tell.calls t181 t182 t183 t184 t185 (Go.bits .and .u64 a0 281474976710655) t188 t189 t190 t191 t192 t193 _ A7.out).mono ?_); rintro e w16 ⟨rfl, hb⟩; refine ⟨_, rfl, ?_⟩; have n0_ := Aside0.mk (blk_below (g := gb180) (o := .cells #[.int .u16 t175, .int .u64 t176, .int .u32 t177, .int .u64 t178, .int .u32 t179] 27 (0, 0)) (by (with_reducible repeat (first | refine blk_drewN ?_ _ | refine blk_drew ?_ | refine blk_alloc ?_ _)); refine blk_far ?_ NB180_187.out _; (with_reducible repeat (first | refine blk_drewN ?_ _ | refine blk_drew ?_ | refine blk_alloc ?_ _)); refine blk_far ?_ NB180_187.out _; (with_reducible repeat (first | refine blk_drewN ?_ _ | refine blk_drew ?_ | refine blk_alloc ?_ _)); refine blk_far ?_ NB180_187.out _; (with_reducible repeat (first | refine blk_drewN ?_ _ | refine blk_drew ?_ | refine blk_alloc ?_ _)); refine blk_far ?_ NB180_187.out _; (with_reducible repeat (first | refine blk_drewN ?_ _ | refine blk_drew ?_ | refine blk_alloc ?_ _)); refine blk_far ?_ NB180_187.out _; (with_reducible repeat (first | refine blk_drewN ?_ _ | refine blk_drew ?_ | refine blk_alloc ?_ _)); exact BK180.out) hb); have n1_ := Aside0.mk (blk_below (g := gb187) (o := .cells #[.int .u16 t181, .int .u64 t182, .int .u32 t183, .int .u64 t184, .int .u32 t185] 27 (0, 0)) (by (with_reducible repeat (first | refine blk_drewN ?_ _ | refine blk_drew ?_ | refine blk_alloc ?_ _)); refine blk_put (cs := #[.int .u16 t181, .int .u64 t182, .int .u32 t183, .int .u64 t184, .int .u32 0]) ?_ 4 _ rfl; (with_reducible repeat (first | refine blk_drewN ?_ _ | refine blk_drew ?_ | refine blk_alloc ?_ _)); refine blk_put (cs := #[.int .u16 t181, .int .u64 t182, .int .u32 t183, .int .u64 0, .int .u32 0]) ?_ 3 _ rfl; (with_reducible repeat (first | refine blk_drewN ?_ _ | refine blk_drew ?_ | refine blk_alloc ?_ _)); refine blk_put (cs := #[.int .u16 t181, .int .u64 t182, .int .u32 0, .int .u64 0, .int .u32 0]) ?_ 2 _ rfl; (with_reducible repeat (first | refine blk_drewN ?_ _ | refine blk_drew ?_ | refine blk_alloc ?_ _)); refine blk_put (cs := #[.int .u16 t181, .int .u64 0, .int .u32 0, .int .u64 0, .int .u32 0]) ?_ 1 _ rfl; (with_reducible repeat (first | refine blk_drewN ?_ _ | refine blk_drew ?_ | refine blk_alloc ?_ _)); refine blk_put (cs := #[.int .u16 0, .int .u64 0, .int .u32 0, .int .u64 0, .int .u32 0]) ?_ 0 _ rfl; (with_reducible repeat (first | refine blk_drewN ?_ _ | refine blk_drew ?_ | refine blk_alloc ?_ _)); exact BK187.out) hb); have n2_ := Aside0.mk (below_step (by repeat (first | (with_reducible first | exact HB.out | apply below_alloc | apply pw_below_drewN | apply below_drew1 | refine below_set ?_ GE180.out | refine below_set ?_ GE187.out) | exact HB.out)) hb); clear BK180; clear BK187; clear HB; have BK180 := n0_; have BK187 := n1_; have HB := n2_; clear n0_ n1_ n2_; (try clear hb); (try clear hb2); (try clear hk); (try clear hi)) | ((with_reducible refine gate_dst (N := 12) rfl ?_); refine box_event ?hg (N := 12) ?hd (cs := #[.int .u16 0, .int .u64 0, .int .u32 0, .int .u64 0, .int .u32 0]) (t := 27) ?hr ?_; (case hd => rfl); (case hg => rfl); (case hr => first | (go_simp; done) | (go_simp; rfl)); intro gb194 hg w17 hbox hb; have n0_ := Aside0.mk (blk_below (g := gb180) (o := .cells #[.int .u16 t175, .int .u64 t176, .int .u32 t177, .int .u64 t178, .int .u32 t179] 27 (0, 0)) (by (with_reducible repeat (first | refine blk_drewN ?_ _ | refine blk_drew ?_ | refine blk_alloc ?_ _)); exact BK180.out) hb); have n1_ := Aside0.mk (blk_below (g := gb187) (o := .cells #[.int .u16 t181, .int .u64 t182, .int .u32 t183, .int .u64 t184, .int .u32 t185] 27 (0, 0)) (by (with_reducible repeat (first | refine blk_drewN ?_ _ | refine blk_drew ?_ | refine blk_alloc ?_ _)); exact BK187.out) hb); have n2_ := Aside0.mk (below_step (by repeat (first | (with_reducible first | exact HB.out | apply below_alloc | apply pw_below_drewN | apply below_drew1 | refine below_set ?_ GE180.out | refine below_set ?_ GE187.out) | exact HB.out)) hb); have n3_ := Aside0.mk (hbox); have n4_ := Aside0.mk ((by rw [hg]; exact (below_size (by repeat (first | (with_reducible first | exact HB.out | apply below_alloc | apply pw_below_drewN | apply below_drew1 | refine below_set ?_ GE180.out | refine below_set ?_ GE187.out) | exact HB.out))) : w.heap.size ≤ gb194)); have n5_ := Aside0.mk ((by rw [hg]; exact (below_size (by repeat (first | (with_reducible first | exact HB.out | apply below_alloc | apply pw_below_drewN | apply below_drew1 | refine below_set ?_ GE180.out | refine below_set ?_ GE187.out) | exact HB.out))) : w.heap.size ≤ gb194)); have n6_ := Aside0.mk ((by rw [hg]; exact Nat.ne_of_lt (blk_lt (g := gb180) (o := .cells #[.int .u16 t175, .int .u64 t176, .int .u32 t177, .int .u64 t178, .int .u32 t179] 27 (0, 0)) (by (with_reducible repeat (first | refine blk_drewN ?_ _ | refine blk_drew ?_ | refine blk_alloc ?_ _)); exact BK180.out)) : gb180 ≠ gb194)); have n7_ := Aside0.mk ((by rw [hg]; exact Nat.ne_of_gt (blk_lt (g := gb180) (o := .cells #[.int .u16 t175, .int .u64 t176, .int .u32 t177, .int .u64 t178, .int .u32 t179] 27 (0, 0)) (by (with_reducible repeat (first | refine blk_drewN ?_ _ | refine blk_drew ?_ | refine blk_alloc ?_ _)); exact BK180.out)) : gb194 ≠ gb180)); have n8_ := Aside0.mk ((by rw [hg]; exact Nat.ne_of_lt (blk_lt (g := gb187) (o := .cells #[.int .u16 t181, .int .u64 t182, .int .u32 t183, .int .u64 t184, .int .u32 t185] 27 (0, 0)) (by (with_reducible repeat (first | refine blk_drewN ?_ _ | refine blk_drew ?_ | refine blk_alloc ?_ _)); exact BK187.out)) : gb187 ≠ gb194)); have n9_ := Aside0.mk ((by rw [hg]; exact Nat.ne_of_gt (blk_lt (g := gb187) (o := .cells #[.int .u16 t181, .int .u64 t182, .int .u32 t183, .int .u64 t184, .int .u32 t185] 27 (0, 0)) (by (with_reducible repeat (first | refine blk_drewN ?_ _ | refine blk_drew ?_ | refine blk_alloc ?_ _)); exact BK187.out)) : gb194 ≠ gb187)); clear BK180; clear BK187; clear HB; have BK180 := n0_; have BK187 := n1_; have HB := n2_; have BK194 := n3_; have GW194 := n4_; have GE194 := n5_; have NB180_194 := n6_; have NB194_180 := n7_; have NB187_194 := n8_; have NB194_187 := n9_; clear n0_ n1_ n2_ n3_ n4_ n5_ n6_ n7_ n8_ n9_; clear hb hbox hg; have hnb18 := NB194_180.out; have hnc18 := NB180_194.out; have hnb19 := NB194_187.out; have hnc19 := NB187_194.out; have hcz20_0 : w17.cell? ⟨gb194, 0, none⟩ = some (.int .u16 0) := (blk_cell BK194.out 0).trans rfl; have hcz20_1 : w17.cell? ⟨gb194, 1, none⟩ = some (.int .u64 0) := (blk_cell BK194.out 1).trans rfl; have hcz20_2 : w17.cell? ⟨gb194, 2, none⟩ = some (.int .u32 0) := (blk_cell BK194.out 2).trans rfl; have hcz20_3 : w17.cell? ⟨gb194, 3, none⟩ = some (.int .u64 0) := (blk_cell BK194.out 3).trans rfl; have hcz20_4 : w17.cell? ⟨gb194, 4, none⟩ = some (.int .u32 0) := (blk_cell BK194.out 4).trans rfl; have hfz20_0 := blk_frozen BK194.out 0; have hfz20_1 := blk_frozen BK194.out 1; have hfz20_2 := blk_frozen BK194.out 2; have hfz20_3 := blk_frozen BK194.out 3; have hfz20_4 := blk_frozen BK194.out 4) | ((with_reducible refine gate_callee (f := 16) rfl ?_); refine goesL_ (some 40) rfl rfl Try.func16 (by kernel_rfl) rfl #[.int .u64 (Go.bits .and .u64 a0 281474976710655), .int .u32 a2] rfl (by (try simp only [List.map_toArray, List.map_cons, List.map_nil]); first | done | rfl | (simp only [List.length_drop, List.length_take]; rfl)) ?_; (with_reducible refine (arp_Call.calls (Go.bits .and .u64 a0 281474976710655) a2 t195 t196 t197 t198 t199 _ A8.out).mono ?_); rintro e w21 ⟨rfl, hb⟩; refine ⟨_, rfl, ?_⟩; have n0_ := Aside0.mk (blk_below (g := gb180) (o := .cells #[.int .u16 t175, .int .u64 t176, .int .u32 t177, .int .u64 t178, .int .u32 t179] 27 (0, 0)) (by (with_reducible repeat (first | refine blk_drewN ?_ _ | refine blk_drew ?_ | refine blk_alloc ?_ _)); refine blk_far ?_ NB180_194.out _; (with_reducible repeat (first | refine blk_drewN ?_ _ | refine blk_drew ?_ | refine blk_alloc ?_ _)); refine blk_far ?_ NB180_194.out _; (with_reducible repeat (first | refine blk_drewN ?_ _ | refine blk_drew ?_ | refine blk_alloc ?_ _)); refine blk_far ?_ NB180_194.out _; (with_reducible repeat (first | refine blk_drewN ?_ _ | refine blk_drew ?_ | refine blk_alloc ?_ _)); refine blk_far ?_ NB180_194.out _; (with_reducible repeat (first | refine blk_drewN ?_ _ | refine blk_drew ?_ | refine blk_alloc ?_ _)); refine blk_far ?_ NB180_194.out _; (with_reducible repeat (first | refine blk_drewN ?_ _ | refine blk_drew ?_ | refine blk_alloc ?_ _)); exact BK180.out) hb); have n1_ := Aside0.mk (blk_below (g := gb187) (o := .cells #[.int .u16 t181, .int .u64 t182, .int .u32 t183, .int .u64 t184, .int .u32 t185] 27 (0, 0)) (by (with_reducible repeat (first | refine blk_drewN ?_ _ | refine blk_drew ?_ | refine blk_alloc ?_ _)); refine blk_far ?_ NB187_194.out _; (with_reducible repeat (first | refine blk_drewN ?_ _ | refine blk_drew ?_ | refine blk_alloc ?_ _)); refine blk_far ?_ NB187_194.out _; (with_reducible repeat (first | refine blk_drewN ?_ _ | refine blk_drew ?_ | refine blk_alloc ?_ _)); refine blk_far ?_ NB187_194.out _; (with_reducible repeat (first | refine blk_drewN ?_ _ | refine blk_drew ?_ | refine blk_alloc ?_ _)); refine blk_far ?_ NB187_194.out _; (with_reducible repeat (first | refine blk_drewN ?_ _ | refine blk_drew ?_ | refine blk_alloc ?_ _)); refine blk_far ?_ NB187_194.out _; (with_reducible repeat (first | refine blk_drewN ?_ _ | refine blk_drew ?_ | refine blk_alloc ?_ _)); exact BK187.out) hb); have n2_ := Aside0.mk (blk_below (g := gb194) (o := .cells #[.int .u16 t188, .int .u64 t189, .int .u32 t190, .int .u64 t191, .int .u32 t192] 27 (0, 0)) (by (with_reducible repeat (first | refine blk_drewN ?_ _ | refine blk_drew ?_ | refine blk_alloc ?_ _)); refine blk_put (cs := #[.int .u16 t188, .int .u64 t189, .int .u32 t190, .int .u64 t191, .int .u32 0]) ?_ 4 _ rfl; (with_reducible repeat (first | refine blk_drewN ?_ _ | refine blk_drew ?_ | refine blk_alloc ?_ _)); refine blk_put (cs := #[.int .u16 t188, .int .u64 t189, .int .u32 t190, .int .u64 0, .int .u32 0]) ?_ 3 _ rfl; (with_reducible repeat (first | refine blk_drewN ?_ _ | refine blk_drew ?_ | refine blk_alloc ?_ _)); refine blk_put (cs := #[.int .u16 t188, .int .u64 t189, .int .u32 0, .int .u64 0, .int .u32 0]) ?_ 2 _ rfl; (with_reducible repeat (first | refine blk_drewN ?_ _ | refine blk_drew ?_ | refine blk_alloc ?_ _)); refine blk_put (cs := #[.int .u16 t188, .int .u64 0, .int .u32 0, .int .u64 0, .int .u32 0]) ?_ 1 _ rfl; (with_reducible repeat (first | refine blk_drewN ?_ _ | refine blk_drew ?_ | refine blk_alloc ?_ _)); refine blk_put (cs := #[.int .u16 0, .int .u64 0, .int .u32 0, .int .u64 0, .int .u32 0]) ?_ 0 _ rfl; (with_reducible repeat (first | refine blk_drewN ?_ _ | refine blk_drew ?_ | refine blk_alloc ?_ _)); exact BK194.out) hb); have n3_ := Aside0.mk (below_step (by repeat (first | (with_reducible first | exact HB.out | apply below_alloc | apply pw_below_drewN | apply below_drew1 | refine below_set ?_ GE180.out | refine below_set ?_ GE187.out | refine below_set ?_ GE194.out) | exact HB.out)) hb); clear BK180; clear BK187; clear BK194; clear HB; have BK180 := n0_; have BK187 := n1_; have BK194 := n2_; have HB := n3_; clear n0_ n1_ n2_ n3_; (try clear hb); (try clear hb2); (try clear hk); (try clear hi)) | ((with_reducible refine gate_dst (N := 14) rfl ?_); refine box_event ?hg (N := 14) ?hd (cs := #[.int .u16 0, .int .u64 0, .int .u32 0, .int .u64 0, .int .u32 0]) (t := 27) ?hr ?_; (case hd => rfl); (case hg => rfl); (case hr => first | (go_simp; done) | (go_simp; rfl)); intro gb200 hg w22 hbox hb; have n0_ := Aside0.mk (blk_below (g := gb180) (o := .cells #[.int .u16 t175, .int .u64 t176, .int .u32 t177, .int .u64 t178, .int .u32 t179] 27 (0, 0)) (by (with_reducible repeat (first | refine blk_drewN ?_ _ | refine blk_drew ?_ | refine blk_alloc ?_ _)); exact BK180.out) hb); have n1_ := Aside0.mk (blk_below (g := gb187) (o := .cells #[.int .u16 t181, .int .u64 t182, .int .u32 t183, .int .u64 t184, .int .u32 t185] 27 (0, 0)) (by (with_reducible repeat (first | refine blk_drewN ?_ _ | refine blk_drew ?_ | refine blk_alloc ?_ _)); exact BK187.out) hb); have n2_ := Aside0.mk (blk_below (g := gb194) (o := .cells #[.int .u16 t188, .int .u64 t189, .int .u32 t190, .int .u64 t191, .int .u32 t192] 27 (0, 0)) (by (with_reducible repeat (first | refine blk_drewN ?_ _ | refine blk_drew ?_ | refine blk_alloc ?_ _)); exact BK194.out) hb); have n3_ := Aside0.mk (below_step (by repeat (first | (with_reducible first | exact HB.out | apply below_alloc | apply pw_below_drewN | apply below_drew1 | refine below_set ?_ GE180.out | refine below_set ?_ GE187.out | refine below_set ?_ GE194.out) | exact HB.out)) hb); have n4_ := Aside0.mk (hbox); have n5_ := Aside0.mk ((by rw [hg]; exact (below_size (by repeat (first | (with_reducible first | exact HB.out | apply below_alloc | apply pw_below_drewN | apply below_drew1 | refine below_set ?_ GE180.out | refine below_set ?_ GE187.out | refine below_set ?_ GE194.out) | exact HB.out))) : w.heap.size ≤ gb200)); have n6_ := Aside0.mk ((by rw [hg]; exact (below_size (by repeat (first | (with_reducible first | exact HB.out | apply below_alloc | apply pw_below_drewN | apply below_drew1 | refine below_set ?_ GE180.out | refine below_set ?_ GE187.out | refine below_set ?_ GE194.out) | exact HB.out))) : w.heap.size ≤ gb200)); have n7_ := Aside0.mk ((by rw [hg]; exact Nat.ne_of_lt (blk_lt (g := gb180) (o := .cells #[.int .u16 t175, .int .u64 t176, .int .u32 t177, .int .u64 t178, .int .u32 t179] 27 (0, 0)) (by (with_reducible repeat (first | refine blk_drewN ?_ _ | refine blk_drew ?_ | refine blk_alloc ?_ _)); exact BK180.out)) : gb180 ≠ gb200)); have n8_ := Aside0.mk ((by rw [hg]; exact Nat.ne_of_gt (blk_lt (g := gb180) (o := .cells #[.int .u16 t175, .int .u64 t176, .int .u32 t177, .int .u64 t178, .int .u32 t179] 27 (0, 0)) (by (with_reducible repeat (first | refine blk_drewN ?_ _ | refine blk_drew ?_ | refine blk_alloc ?_ _)); exact BK180.out)) : gb200 ≠ gb180)); have n9_ := Aside0.mk ((by rw [hg]; exact Nat.ne_of_lt (blk_lt (g := gb187) (o := .cells #[.int .u16 t181, .int .u64 t182, .int .u32 t183, .int .u64 t184, .int .u32 t185] 27 (0, 0)) (by (with_reducible repeat (first | refine blk_drewN ?_ _ | refine blk_drew ?_ | refine blk_alloc ?_ _)); exact BK187.out)) : gb187 ≠ gb200)); have n10_ := Aside0.mk ((by rw [hg]; exact Nat.ne_of_gt (blk_lt (g := gb187) (o := .cells #[.int .u16 t181, .int .u64 t182, .int .u32 t183, .int .u64 t184, .int .u32 t185] 27 (0, 0)) (by (with_reducible repeat (first | refine blk_drewN ?_ _ | refine blk_drew ?_ | refine blk_alloc ?_ _)); exact BK187.out)) : gb200 ≠ gb187)); have n11_ := Aside0.mk ((by rw [hg]; exact Nat.ne_of_lt (blk_lt (g := gb194) (o := .cells #[.int .u16 t188, .int .u64 t189, .int .u32 t190, .int .u64 t191, .int .u32 t192] 27 (0, 0)) (by (with_reducible repeat (first | refine blk_drewN ?_ _ | refine blk_drew ?_ | refine blk_alloc ?_ _)); exact BK194.out)) : gb194 ≠ gb200)); have n12_ := Aside0.mk ((by rw [hg]; exact Nat.ne_of_gt (blk_lt (g := gb194) (o := .cells #[.int .u16 t188, .int .u64 t189, .int .u32 t190, .int .u64 t191, .int .u32 t192] 27 (0, 0)) (by (with_reducible repeat (first | refine blk_drewN ?_ _ | refine blk_drew ?_ | refine blk_alloc ?_ _)); exact BK194.out)) : gb200 ≠ gb194)); clear BK180; clear BK187; clear BK194; clear HB; have BK180 := n0_; have BK187 := n1_; have BK194 := n2_; have HB := n3_; have BK200 := n4_; have GW200 := n5_; have GE200 := n6_; have NB180_200 := n7_; have NB200_180 := n8_; have NB187_200 := n9_; have NB200_187 := n10_; have NB194_200 := n11_; have NB200_194 := n12_; clear n0_ n1_ n2_ n3_ n4_ n5_ n6_ n7_ n8_ n9_ n10_ n11_ n12_; clear hb hbox hg; have hnb23 := NB200_180.out; have hnc23 := NB180_200.out; have hnb24 := NB200_187.out; have hnc24 := NB187_200.out; have hnb25 := NB200_194.out; have hnc25 := NB194_200.out; have hcz26_0 : w22.cell? ⟨gb200, 0, none⟩ = some (.int .u16 0) := (blk_cell BK200.out 0).trans rfl; have hcz26_1 : w22.cell? ⟨gb200, 1, none⟩ = some (.int .u64 0) := (blk_cell BK200.out 1).trans rfl; have hcz26_2 : w22.cell? ⟨gb200, 2, none⟩ = some (.int .u32 0) := (blk_cell BK200.out 2).trans rfl; have hcz26_3 : w22.cell? ⟨gb200, 3, none⟩ = some (.int .u64 0) := (blk_cell BK200.out 3).trans rfl; have hcz26_4 : w22.cell? ⟨gb200, 4, none⟩ = some (.int .u32 0) := (blk_cell BK200.out 4).trans rfl; have hfz26_0 := blk_frozen BK200.out 0; have hfz26_1 := blk_frozen BK200.out 1; have hfz26_2 := blk_frozen BK200.out 2; have hfz26_3 := blk_frozen BK200.out 3; have hfz26_4 := blk_frozen BK200.out 4))
  go_loopg [15] k (fun kq v15 w' => ∃ (x15_1 : Int), v15 = .int .i64 x15_1 ∧ Aside0 (stevedorelaw08_ArpTalk.l0 kq (Go.bits .and .u64 a0 281474976710655) (Go.bits .and .u64 a1 281474976710655) a2 a3 t186 t193 x15_1 t175 t176 t177 t178 t179 t181 t182 t183 t184 t185 t195 t196 t197 t198 t199 = some r) ∧ Aside0 (kq ≤ k) ∧ Aside0 (w'.heap[gb180]? = some (.cells #[.int .u16 t175, .int .u64 t176, .int .u32 t177, .int .u64 t178, .int .u32 t179] 27 (0, 0))) ∧ Aside0 (w'.heap[gb187]? = some (.cells #[.int .u16 t181, .int .u64 t182, .int .u32 t183, .int .u64 t184, .int .u32 t185] 27 (0, 0))) ∧ Aside0 (w'.heap[gb194]? = some (.cells #[.int .u16 t188, .int .u64 t189, .int .u32 t190, .int .u64 t191, .int .u32 t192] 27 (0, 0))) ∧ Aside0 (w'.heap[gb200]? = some (.cells #[.int .u16 t195, .int .u64 t196, .int .u32 t197, .int .u64 t198, .int .u32 t199] 27 (0, 0))) ∧ Aside0 (Below w.heap.size w w'))
  case atStart => exact ⟨(0), (by first | rfl | (simp; done) | (simp [*]; done)), H', ⟨Nat.le_refl _⟩, ⟨by (with_reducible repeat (first | refine blk_drewN ?_ _ | refine blk_drew ?_ | refine blk_alloc ?_ _)); refine blk_far ?_ NB180_200.out _; (with_reducible repeat (first | refine blk_drewN ?_ _ | refine blk_drew ?_ | refine blk_alloc ?_ _)); refine blk_far ?_ NB180_200.out _; (with_reducible repeat (first | refine blk_drewN ?_ _ | refine blk_drew ?_ | refine blk_alloc ?_ _)); refine blk_far ?_ NB180_200.out _; (with_reducible repeat (first | refine blk_drewN ?_ _ | refine blk_drew ?_ | refine blk_alloc ?_ _)); refine blk_far ?_ NB180_200.out _; (with_reducible repeat (first | refine blk_drewN ?_ _ | refine blk_drew ?_ | refine blk_alloc ?_ _)); refine blk_far ?_ NB180_200.out _; (with_reducible repeat (first | refine blk_drewN ?_ _ | refine blk_drew ?_ | refine blk_alloc ?_ _)); exact BK180.out⟩, ⟨by (with_reducible repeat (first | refine blk_drewN ?_ _ | refine blk_drew ?_ | refine blk_alloc ?_ _)); refine blk_far ?_ NB187_200.out _; (with_reducible repeat (first | refine blk_drewN ?_ _ | refine blk_drew ?_ | refine blk_alloc ?_ _)); refine blk_far ?_ NB187_200.out _; (with_reducible repeat (first | refine blk_drewN ?_ _ | refine blk_drew ?_ | refine blk_alloc ?_ _)); refine blk_far ?_ NB187_200.out _; (with_reducible repeat (first | refine blk_drewN ?_ _ | refine blk_drew ?_ | refine blk_alloc ?_ _)); refine blk_far ?_ NB187_200.out _; (with_reducible repeat (first | refine blk_drewN ?_ _ | refine blk_drew ?_ | refine blk_alloc ?_ _)); refine blk_far ?_ NB187_200.out _; (with_reducible repeat (first | refine blk_drewN ?_ _ | refine blk_drew ?_ | refine blk_alloc ?_ _)); exact BK187.out⟩, ⟨by (with_reducible repeat (first | refine blk_drewN ?_ _ | refine blk_drew ?_ | refine blk_alloc ?_ _)); refine blk_far ?_ NB194_200.out _; (with_reducible repeat (first | refine blk_drewN ?_ _ | refine blk_drew ?_ | refine blk_alloc ?_ _)); refine blk_far ?_ NB194_200.out _; (with_reducible repeat (first | refine blk_drewN ?_ _ | refine blk_drew ?_ | refine blk_alloc ?_ _)); refine blk_far ?_ NB194_200.out _; (with_reducible repeat (first | refine blk_drewN ?_ _ | refine blk_drew ?_ | refine blk_alloc ?_ _)); refine blk_far ?_ NB194_200.out _; (with_reducible repeat (first | refine blk_drewN ?_ _ | refine blk_drew ?_ | refine blk_alloc ?_ _)); refine blk_far ?_ NB194_200.out _; (with_reducible repeat (first | refine blk_drewN ?_ _ | refine blk_drew ?_ | refine blk_alloc ?_ _)); exact BK194.out⟩, ⟨by (with_reducible repeat (first | refine blk_drewN ?_ _ | refine blk_drew ?_ | refine blk_alloc ?_ _)); refine blk_put (cs := #[.int .u16 t195, .int .u64 t196, .int .u32 t197, .int .u64 t198, .int .u32 0]) ?_ 4 _ rfl; (with_reducible repeat (first | refine blk_drewN ?_ _ | refine blk_drew ?_ | refine blk_alloc ?_ _)); refine blk_put (cs := #[.int .u16 t195, .int .u64 t196, .int .u32 t197, .int .u64 0, .int .u32 0]) ?_ 3 _ rfl; (with_reducible repeat (first | refine blk_drewN ?_ _ | refine blk_drew ?_ | refine blk_alloc ?_ _)); refine blk_put (cs := #[.int .u16 t195, .int .u64 t196, .int .u32 0, .int .u64 0, .int .u32 0]) ?_ 2 _ rfl; (with_reducible repeat (first | refine blk_drewN ?_ _ | refine blk_drew ?_ | refine blk_alloc ?_ _)); refine blk_put (cs := #[.int .u16 t195, .int .u64 0, .int .u32 0, .int .u64 0, .int .u32 0]) ?_ 1 _ rfl; (with_reducible repeat (first | refine blk_drewN ?_ _ | refine blk_drew ?_ | refine blk_alloc ?_ _)); refine blk_put (cs := #[.int .u16 0, .int .u64 0, .int .u32 0, .int .u64 0, .int .u32 0]) ?_ 0 _ rfl; (with_reducible repeat (first | refine blk_drewN ?_ _ | refine blk_drew ?_ | refine blk_alloc ?_ _)); exact BK200.out⟩, ⟨by repeat (first | (with_reducible first | exact HB.out | apply below_alloc | apply pw_below_drewN | apply below_drew1 | refine below_set ?_ GE180.out | refine below_set ?_ GE187.out | refine below_set ?_ GE194.out | refine below_set ?_ GE200.out) | exact HB.out)⟩⟩
  case round =>
    clear H'
    try clear c1
    try clear c2
    try clear p2
    try clear c6
    try clear c12
    try clear c14
    try clear c16
    try clear c18
    try clear c19
    try clear c23
    try clear c24
    try clear c25
    try clear hcz11_0
    try clear hcz11_1
    try clear hcz11_2
    try clear hcz11_3
    try clear hcz11_4
    try clear hcz15_0
    try clear hcz15_1
    try clear hcz15_2
    try clear hcz15_3
    try clear hcz15_4
    try clear hcz20_0
    try clear hcz20_1
    try clear hcz20_2
    try clear hcz20_3
    try clear hcz20_4
    try clear hcz26_0
    try clear hcz26_1
    try clear hcz26_2
    try clear hcz26_3
    try clear hcz26_4
    try clear hfz11_0
    try clear hfz11_1
    try clear hfz11_2
    try clear hfz11_3
    try clear hfz11_4
    try clear hfz15_0
    try clear hfz15_1
    try clear hfz15_2
    try clear hfz15_3
    try clear hfz15_4
    try clear hfz20_0
    try clear hfz20_1
    try clear hfz20_2
    try clear hfz20_3
    try clear hfz20_4
    try clear hfz26_0
    try clear hfz26_1
    try clear hfz26_2
    try clear hfz26_3
    try clear hfz26_4
    obtain ⟨x15_1, rfl, HA, HK1, BK180, BK187, BK194, BK200, HB⟩ := hrel
    cases gk with
    | zero => exact absurd HA.out (by simp [stevedorelaw08_ArpTalk.l0])
    | succ k1 =>
      have H := HA.out
      clear HA
      simp only [stevedorelaw08_ArpTalk.l0] at H
      by_cases c27 : x15_1 < 3
      · rw [if_pos c27] at H
        have c27b0 : decide (x15_1 < 3) = true := decide_eq_true c27
        clear c27
        obtain ⟨y201, hy201⟩ : ∃ y_ : List (S27), y_ = (([(⟨t175, t176, t177, t178, t179⟩ : S27), (⟨t181, t182, t183, t184, t185⟩ : S27), (⟨t195, t196, t197, t198, t199⟩ : S27)] : List (S27))) := ⟨_, rfl⟩
        replace H : (if 0 ≤ x15_1 then (if x15_1 < (y201.length : Int) then ((arp_Encode.f k1 ((rd_T27 y201 x15_1).f0) ((rd_T27 y201 x15_1).f1) ((rd_T27 y201 x15_1).f2) ((rd_T27 y201 x15_1).f3) ((rd_T27 y201 x15_1).f4)).bind fun bt205 => (if bt205.2 = 0 then (stevedorelaw08_ArpTalk.l0 k1 (Go.bits .and .u64 a0 281474976710655) (Go.bits .and .u64 a1 281474976710655) a2 a3 t186 t193 (wrap64 (x15_1 + 1)) t175 t176 t177 t178 t179 t181 t182 t183 t184 t185 t195 t196 t197 t198 t199) else (some false))) else (none)) else (none)) = some r := by first | (rw [hy201]; with_reducible exact H) | (have H2_ := (Option.bind_some _ _).symm.trans H; rw [hy201]; with_reducible exact H2_) | (have H2_ := (Option.bind_some _ _).symm.trans H; with_reducible exact H2_) | with_reducible exact H | (rw [hy201]; exact H) | exact H
        have Ny201 := Aside0.mk hy201
        clear hy201
        by_cases c28 : 0 ≤ x15_1
        · rw [if_pos c28] at H
          have c28b0 : decide (0 ≤ x15_1) = true := decide_eq_true c28
          clear c28
          by_cases c29 : x15_1 < (y201.length : Int)
          · rw [if_pos c29] at H
            have c29b0 : decide (x15_1 < (y201.length : Int)) = true := decide_eq_true c29
            clear c29
            replace H := Option.bind_eq_some_iff.mp H
            obtain ⟨⟨t205, t206⟩, A300, H⟩ := H
            replace H : (if t206 = 0 then (stevedorelaw08_ArpTalk.l0 k1 (Go.bits .and .u64 a0 281474976710655) (Go.bits .and .u64 a1 281474976710655) a2 a3 t186 t193 (wrap64 (x15_1 + 1)) t175 t176 t177 t178 t179 t181 t182 t183 t184 t185 t195 t196 t197 t198 t199) else (some false)) = some r := H
            have A30 := Aside0.mk A300
            clear A300
            by_cases c31 : t206 = 0
            · rw [if_pos c31] at H
              have c31b0 : (t206 == 0) = true := beq_iff_eq.mpr c31
              have c31b1 : (t206 != 0) = false := bne_eq_false_iff_eq.mpr c31
              clear c31
              have H' := Aside0.mk H
              clear H
              have hnb32 := NB180_187.out
              have hnc32 := NB187_180.out
              have hnb33 := NB180_194.out
              have hnc33 := NB194_180.out
              have hnb34 := NB180_200.out
              have hnc34 := NB200_180.out
              have hcz35_0 : wr.cell? ⟨gb180, 0, none⟩ = some (.int .u16 t175) := (blk_cell BK180.out 0).trans rfl
              have hcz35_1 : wr.cell? ⟨gb180, 1, none⟩ = some (.int .u64 t176) := (blk_cell BK180.out 1).trans rfl
              have hcz35_2 : wr.cell? ⟨gb180, 2, none⟩ = some (.int .u32 t177) := (blk_cell BK180.out 2).trans rfl
              have hcz35_3 : wr.cell? ⟨gb180, 3, none⟩ = some (.int .u64 t178) := (blk_cell BK180.out 3).trans rfl
              have hcz35_4 : wr.cell? ⟨gb180, 4, none⟩ = some (.int .u32 t179) := (blk_cell BK180.out 4).trans rfl
              have hfz35_0 := blk_frozen BK180.out 0
              have hfz35_1 := blk_frozen BK180.out 1
              have hfz35_2 := blk_frozen BK180.out 2
              have hfz35_3 := blk_frozen BK180.out 3
              have hfz35_4 := blk_frozen BK180.out 4
              have hnb36 := NB187_194.out
              have hnc36 := NB194_187.out
              have hnb37 := NB187_200.out
              have hnc37 := NB200_187.out
              have hcz38_0 : wr.cell? ⟨gb187, 0, none⟩ = some (.int .u16 t181) := (blk_cell BK187.out 0).trans rfl
              have hcz38_1 : wr.cell? ⟨gb187, 1, none⟩ = some (.int .u64 t182) := (blk_cell BK187.out 1).trans rfl
              have hcz38_2 : wr.cell? ⟨gb187, 2, none⟩ = some (.int .u32 t183) := (blk_cell BK187.out 2).trans rfl
              have hcz38_3 : wr.cell? ⟨gb187, 3, none⟩ = some (.int .u64 t184) := (blk_cell BK187.out 3).trans rfl
              have hcz38_4 : wr.cell? ⟨gb187, 4, none⟩ = some (.int .u32 t185) := (blk_cell BK187.out 4).trans rfl
              have hfz38_0 := blk_frozen BK187.out 0
              have hfz38_1 := blk_frozen BK187.out 1
              have hfz38_2 := blk_frozen BK187.out 2
              have hfz38_3 := blk_frozen BK187.out 3
              have hfz38_4 := blk_frozen BK187.out 4
              have hnb39 := NB200_194.out
              have hnc39 := NB194_200.out
              have hcz40_0 : wr.cell? ⟨gb200, 0, none⟩ = some (.int .u16 t195) := (blk_cell BK200.out 0).trans rfl
              have hcz40_1 : wr.cell? ⟨gb200, 1, none⟩ = some (.int .u64 t196) := (blk_cell BK200.out 1).trans rfl
              have hcz40_2 : wr.cell? ⟨gb200, 2, none⟩ = some (.int .u32 t197) := (blk_cell BK200.out 2).trans rfl
              have hcz40_3 : wr.cell? ⟨gb200, 3, none⟩ = some (.int .u64 t198) := (blk_cell BK200.out 3).trans rfl
              have hcz40_4 : wr.cell? ⟨gb200, 4, none⟩ = some (.int .u32 t199) := (blk_cell BK200.out 4).trans rfl
              have hfz40_0 := blk_frozen BK200.out 0
              have hfz40_1 := blk_frozen BK200.out 1
              have hfz40_2 := blk_frozen BK200.out 2
              have hfz40_3 := blk_frozen BK200.out 3
              have hfz40_4 := blk_frozen BK200.out 4
              go_wp2_with (first | ((with_reducible refine gate_dst (N := 49) rfl ?_); refine Kd.R_lit k27 _ 27 ?hg (N := 49) ?hd (xs := ([(⟨t175, t176, t177, t178, t179⟩ : S27), (⟨t181, t182, t183, t184, t185⟩ : S27), (⟨t195, t196, t197, t198, t199⟩ : S27)] : List (S27))) (inner := [.int .u16 t175, .int .u64 t176, .int .u32 t177, .int .u64 t178, .int .u32 t179, .int .u16 t181, .int .u64 t182, .int .u32 t183, .int .u64 t184, .int .u32 t185, .int .u16 t195, .int .u64 t196, .int .u32 t197, .int .u64 t198, .int .u32 t199]) (ok := fun _ => True) (okp := fun _ => True) ?hr ?hp (fun _ hk => hk) trivial (Below.refl _ _) (Nat.le_refl _) (by simp) ?_; (case hd => rfl); (case hg => rfl); (case hr => first | (go_simp; done) | (go_simp; rfl)); (case hp => exact (Reps.c5 (show Kd.M k27 _ _ _ (⟨t175, t176, t177, t178, t179⟩ : S27) [.int .u16 t175, .int .u64 t176, .int .u32 t177, .int .u64 t178, .int .u32 t179] from (k27_mkM _ _ _ (⟨t175, t176, t177, t178, t179⟩ : S27) )) (Reps.c5 (show Kd.M k27 _ _ _ (⟨t181, t182, t183, t184, t185⟩ : S27) [.int .u16 t181, .int .u64 t182, .int .u32 t183, .int .u64 t184, .int .u32 t185] from (k27_mkM _ _ _ (⟨t181, t182, t183, t184, t185⟩ : S27) )) (Reps.c5 (show Kd.M k27 _ _ _ (⟨t195, t196, t197, t198, t199⟩ : S27) [.int .u16 t195, .int .u64 t196, .int .u32 t197, .int .u64 t198, .int .u32 t199] from (k27_mkM _ _ _ (⟨t195, t196, t197, t198, t199⟩ : S27) )) (Reps.none _ _))))); intro v202 w41 ho42 hb hg_ hnew_; clear hg_ hnew_; (first | rw [← Ny201.out] at ho42 | (simp only [Int.reduceToNat] at ho42; rw [← Ny201.out] at ho42)); have n0_ := Aside0.mk (Kd.R_lower (Kd.R_newB (Kd.R_newB (Kd.R_newB (Kd.R_newB ho42 (g := gb180) (o := .cells #[.int .u16 t175, .int .u64 t176, .int .u32 t177, .int .u64 t178, .int .u32 t179] 27 (0, 0)) (by (with_reducible repeat (first | refine blk_drewN ?_ _ | refine blk_drew ?_ | refine blk_alloc ?_ _)); exact BK180.out)) (g := gb187) (o := .cells #[.int .u16 t181, .int .u64 t182, .int .u32 t183, .int .u64 t184, .int .u32 t185] 27 (0, 0)) (by (with_reducible repeat (first | refine blk_drewN ?_ _ | refine blk_drew ?_ | refine blk_alloc ?_ _)); exact BK187.out)) (g := gb194) (o := .cells #[.int .u16 t188, .int .u64 t189, .int .u32 t190, .int .u64 t191, .int .u32 t192] 27 (0, 0)) (by (with_reducible repeat (first | refine blk_drewN ?_ _ | refine blk_drew ?_ | refine blk_alloc ?_ _)); exact BK194.out)) (g := gb200) (o := .cells #[.int .u16 t195, .int .u64 t196, .int .u32 t197, .int .u64 t198, .int .u32 t199] 27 (0, 0)) (by (with_reducible repeat (first | refine blk_drewN ?_ _ | refine blk_drew ?_ | refine blk_alloc ?_ _)); exact BK200.out)) (below_size (by repeat (first | (with_reducible first | exact HB.out | apply below_alloc | apply pw_below_drewN | apply below_drew1 | refine below_set ?_ GE180.out | refine below_set ?_ GE187.out | refine below_set ?_ GE194.out | refine below_set ?_ GE200.out) | exact HB.out)))); have n1_ := Aside0.mk (blk_below (g := gb180) (o := .cells #[.int .u16 t175, .int .u64 t176, .int .u32 t177, .int .u64 t178, .int .u32 t179] 27 (0, 0)) (by (with_reducible repeat (first | refine blk_drewN ?_ _ | refine blk_drew ?_ | refine blk_alloc ?_ _)); exact BK180.out) hb); have n2_ := Aside0.mk (blk_below (g := gb187) (o := .cells #[.int .u16 t181, .int .u64 t182, .int .u32 t183, .int .u64 t184, .int .u32 t185] 27 (0, 0)) (by (with_reducible repeat (first | refine blk_drewN ?_ _ | refine blk_drew ?_ | refine blk_alloc ?_ _)); exact BK187.out) hb); have n3_ := Aside0.mk (blk_below (g := gb194) (o := .cells #[.int .u16 t188, .int .u64 t189, .int .u32 t190, .int .u64 t191, .int .u32 t192] 27 (0, 0)) (by (with_reducible repeat (first | refine blk_drewN ?_ _ | refine blk_drew ?_ | refine blk_alloc ?_ _)); exact BK194.out) hb); have n4_ := Aside0.mk (blk_below (g := gb200) (o := .cells #[.int .u16 t195, .int .u64 t196, .int .u32 t197, .int .u64 t198, .int .u32 t199] 27 (0, 0)) (by (with_reducible repeat (first | refine blk_drewN ?_ _ | refine blk_drew ?_ | refine blk_alloc ?_ _)); exact BK200.out) hb); have n5_ := Aside0.mk (below_step (by repeat (first | (with_reducible first | exact HB.out | apply below_alloc | apply pw_below_drewN | apply below_drew1 | refine below_set ?_ GE180.out | refine below_set ?_ GE187.out | refine below_set ?_ GE194.out | refine below_set ?_ GE200.out) | exact HB.out)) hb); clear BK180; clear BK187; clear BK194; clear BK200; clear HB; have HO203 := n0_; have BK180 := n1_; have BK187 := n2_; have BK194 := n3_; have BK200 := n4_; have HB := n5_; clear n0_ n1_ n2_ n3_ n4_ n5_; clear hb ho42; obtain ⟨Ao43, co43, eo43⟩ := Kd.R_slice HO203.out; subst eo43; have p204 : 0 ≤ (x15_1 : Int) := of_decide_eq_true (by first | (with_reducible assumption) | assumption); have q204 : x15_1 < (y201.length : Int) := of_decide_eq_true (by first | (with_reducible assumption) | assumption); obtain ⟨ad204, e204, hx204_0, hx204_1, hx204_2, hx204_3, hx204_4⟩ := at_T27 (Kd.R_reads' HO203.out).2.2 x15_1 p204 q204; cases e204; replace p204 := eq_true p204; replace q204 := eq_true q204) | ((with_reducible refine gate_callee (f := 8) rfl ?_); refine goesL_ (some 53) rfl rfl Try.func8 (by kernel_rfl) rfl #[.agg #[.int .u16 ((rd_T27 y201 x15_1).f0), .int .u64 ((rd_T27 y201 x15_1).f1), .int .u32 ((rd_T27 y201 x15_1).f2), .int .u64 ((rd_T27 y201 x15_1).f3), .int .u32 ((rd_T27 y201 x15_1).f4)]] rfl (by (try simp only [List.map_toArray, List.map_cons, List.map_nil]); first | done | rfl | (simp only [List.length_drop, List.length_take]; rfl)) ?_; (with_reducible refine (arp_Encode.calls k1 ((rd_T27 y201 x15_1).f0) ((rd_T27 y201 x15_1).f1) ((rd_T27 y201 x15_1).f2) ((rd_T27 y201 x15_1).f3) ((rd_T27 y201 x15_1).f4) t205 t206 _ A30.out).mono ?_); rintro e w44 ⟨rfl, hb⟩; refine ⟨_, rfl, ?_⟩; have n0_ := Aside0.mk (Kd.R_below (by (with_reducible repeat (first | apply Kd.R_alloc | apply Kd.R_drewN | apply Kd.R_drew)); exact HO203.out) hb); have n1_ := Aside0.mk (blk_below (g := gb180) (o := .cells #[.int .u16 t175, .int .u64 t176, .int .u32 t177, .int .u64 t178, .int .u32 t179] 27 (0, 0)) (by (with_reducible repeat (first | refine blk_drewN ?_ _ | refine blk_drew ?_ | refine blk_alloc ?_ _)); exact BK180.out) hb); have n2_ := Aside0.mk (blk_below (g := gb187) (o := .cells #[.int .u16 t181, .int .u64 t182, .int .u32 t183, .int .u64 t184, .int .u32 t185] 27 (0, 0)) (by (with_reducible repeat (first | refine blk_drewN ?_ _ | refine blk_drew ?_ | refine blk_alloc ?_ _)); exact BK187.out) hb); have n3_ := Aside0.mk (blk_below (g := gb194) (o := .cells #[.int .u16 t188, .int .u64 t189, .int .u32 t190, .int .u64 t191, .int .u32 t192] 27 (0, 0)) (by (with_reducible repeat (first | refine blk_drewN ?_ _ | refine blk_drew ?_ | refine blk_alloc ?_ _)); exact BK194.out) hb); have n4_ := Aside0.mk (blk_below (g := gb200) (o := .cells #[.int .u16 t195, .int .u64 t196, .int .u32 t197, .int .u64 t198, .int .u32 t199] 27 (0, 0)) (by (with_reducible repeat (first | refine blk_drewN ?_ _ | refine blk_drew ?_ | refine blk_alloc ?_ _)); exact BK200.out) hb); have n5_ := Aside0.mk (below_step (by repeat (first | (with_reducible first | exact HB.out | apply below_alloc | apply pw_below_drewN | apply below_drew1 | refine below_set ?_ GE180.out | refine below_set ?_ GE187.out | refine below_set ?_ GE194.out | refine below_set ?_ GE200.out) | exact HB.out)) hb); clear HO203; clear BK180; clear BK187; clear BK194; clear BK200; clear HB; have HO203 := n0_; have BK180 := n1_; have BK187 := n2_; have BK194 := n3_; have BK200 := n4_; have HB := n5_; clear n0_ n1_ n2_ n3_ n4_ n5_; (try clear hb); (try clear hb2); (try clear hk); (try clear hi)))
              go_roundg k1
              case measure => have := HK1.out; omega
              case rel => exact ⟨(wrap64 (x15_1 + 1)), (by first | rfl | (simp; done) | (simp [*]; done)), H', ⟨by have := HK1.out; omega⟩, ⟨by (with_reducible repeat (first | refine blk_drewN ?_ _ | refine blk_drew ?_ | refine blk_alloc ?_ _)); exact BK180.out⟩, ⟨by (with_reducible repeat (first | refine blk_drewN ?_ _ | refine blk_drew ?_ | refine blk_alloc ?_ _)); exact BK187.out⟩, ⟨by (with_reducible repeat (first | refine blk_drewN ?_ _ | refine blk_drew ?_ | refine blk_alloc ?_ _)); exact BK194.out⟩, ⟨by (with_reducible repeat (first | refine blk_drewN ?_ _ | refine blk_drew ?_ | refine blk_alloc ?_ _)); exact BK200.out⟩, ⟨by repeat (first | (with_reducible first | exact HB.out | apply below_alloc | apply pw_below_drewN | apply below_drew1 | refine below_set ?_ GE180.out | refine below_set ?_ GE187.out | refine below_set ?_ GE194.out | refine below_set ?_ GE200.out) | exact HB.out)⟩⟩
            · rw [if_neg c31] at H
              have c31b0 : (t206 == 0) = false := beq_eq_false_iff_ne.mpr c31
              have c31b1 : (t206 != 0) = true := bne_iff_ne.mpr c31
              obtain rfl := Option.some.inj H
              have hnb45 := NB180_187.out
              have hnc45 := NB187_180.out
              have hnb46 := NB180_194.out
              have hnc46 := NB194_180.out
              have hnb47 := NB180_200.out
              have hnc47 := NB200_180.out
              have hcz48_0 : wr.cell? ⟨gb180, 0, none⟩ = some (.int .u16 t175) := (blk_cell BK180.out 0).trans rfl
              have hcz48_1 : wr.cell? ⟨gb180, 1, none⟩ = some (.int .u64 t176) := (blk_cell BK180.out 1).trans rfl
              have hcz48_2 : wr.cell? ⟨gb180, 2, none⟩ = some (.int .u32 t177) := (blk_cell BK180.out 2).trans rfl
              have hcz48_3 : wr.cell? ⟨gb180, 3, none⟩ = some (.int .u64 t178) := (blk_cell BK180.out 3).trans rfl
              have hcz48_4 : wr.cell? ⟨gb180, 4, none⟩ = some (.int .u32 t179) := (blk_cell BK180.out 4).trans rfl
              have hfz48_0 := blk_frozen BK180.out 0
              have hfz48_1 := blk_frozen BK180.out 1
              have hfz48_2 := blk_frozen BK180.out 2
              have hfz48_3 := blk_frozen BK180.out 3
              have hfz48_4 := blk_frozen BK180.out 4
              have hnb49 := NB187_194.out
              have hnc49 := NB194_187.out
              have hnb50 := NB187_200.out
              have hnc50 := NB200_187.out
              have hcz51_0 : wr.cell? ⟨gb187, 0, none⟩ = some (.int .u16 t181) := (blk_cell BK187.out 0).trans rfl
              have hcz51_1 : wr.cell? ⟨gb187, 1, none⟩ = some (.int .u64 t182) := (blk_cell BK187.out 1).trans rfl
              have hcz51_2 : wr.cell? ⟨gb187, 2, none⟩ = some (.int .u32 t183) := (blk_cell BK187.out 2).trans rfl
              have hcz51_3 : wr.cell? ⟨gb187, 3, none⟩ = some (.int .u64 t184) := (blk_cell BK187.out 3).trans rfl
              have hcz51_4 : wr.cell? ⟨gb187, 4, none⟩ = some (.int .u32 t185) := (blk_cell BK187.out 4).trans rfl
              have hfz51_0 := blk_frozen BK187.out 0
              have hfz51_1 := blk_frozen BK187.out 1
              have hfz51_2 := blk_frozen BK187.out 2
              have hfz51_3 := blk_frozen BK187.out 3
              have hfz51_4 := blk_frozen BK187.out 4
              have hnb52 := NB200_194.out
              have hnc52 := NB194_200.out
              have hcz53_0 : wr.cell? ⟨gb200, 0, none⟩ = some (.int .u16 t195) := (blk_cell BK200.out 0).trans rfl
              have hcz53_1 : wr.cell? ⟨gb200, 1, none⟩ = some (.int .u64 t196) := (blk_cell BK200.out 1).trans rfl
              have hcz53_2 : wr.cell? ⟨gb200, 2, none⟩ = some (.int .u32 t197) := (blk_cell BK200.out 2).trans rfl
              have hcz53_3 : wr.cell? ⟨gb200, 3, none⟩ = some (.int .u64 t198) := (blk_cell BK200.out 3).trans rfl
              have hcz53_4 : wr.cell? ⟨gb200, 4, none⟩ = some (.int .u32 t199) := (blk_cell BK200.out 4).trans rfl
              have hfz53_0 := blk_frozen BK200.out 0
              have hfz53_1 := blk_frozen BK200.out 1
              have hfz53_2 := blk_frozen BK200.out 2
              have hfz53_3 := blk_frozen BK200.out 3
              have hfz53_4 := blk_frozen BK200.out 4
              go_wp2_with (first | ((with_reducible refine gate_dst (N := 49) rfl ?_); refine Kd.R_lit k27 _ 27 ?hg (N := 49) ?hd (xs := ([(⟨t175, t176, t177, t178, t179⟩ : S27), (⟨t181, t182, t183, t184, t185⟩ : S27), (⟨t195, t196, t197, t198, t199⟩ : S27)] : List (S27))) (inner := [.int .u16 t175, .int .u64 t176, .int .u32 t177, .int .u64 t178, .int .u32 t179, .int .u16 t181, .int .u64 t182, .int .u32 t183, .int .u64 t184, .int .u32 t185, .int .u16 t195, .int .u64 t196, .int .u32 t197, .int .u64 t198, .int .u32 t199]) (ok := fun _ => True) (okp := fun _ => True) ?hr ?hp (fun _ hk => hk) trivial (Below.refl _ _) (Nat.le_refl _) (by simp) ?_; (case hd => rfl); (case hg => rfl); (case hr => first | (go_simp; done) | (go_simp; rfl)); (case hp => exact (Reps.c5 (show Kd.M k27 _ _ _ (⟨t175, t176, t177, t178, t179⟩ : S27) [.int .u16 t175, .int .u64 t176, .int .u32 t177, .int .u64 t178, .int .u32 t179] from (k27_mkM _ _ _ (⟨t175, t176, t177, t178, t179⟩ : S27) )) (Reps.c5 (show Kd.M k27 _ _ _ (⟨t181, t182, t183, t184, t185⟩ : S27) [.int .u16 t181, .int .u64 t182, .int .u32 t183, .int .u64 t184, .int .u32 t185] from (k27_mkM _ _ _ (⟨t181, t182, t183, t184, t185⟩ : S27) )) (Reps.c5 (show Kd.M k27 _ _ _ (⟨t195, t196, t197, t198, t199⟩ : S27) [.int .u16 t195, .int .u64 t196, .int .u32 t197, .int .u64 t198, .int .u32 t199] from (k27_mkM _ _ _ (⟨t195, t196, t197, t198, t199⟩ : S27) )) (Reps.none _ _))))); intro v202 w54 ho55 hb hg_ hnew_; clear hg_ hnew_; (first | rw [← Ny201.out] at ho55 | (simp only [Int.reduceToNat] at ho55; rw [← Ny201.out] at ho55)); have n0_ := Aside0.mk (Kd.R_lower (Kd.R_newB (Kd.R_newB (Kd.R_newB (Kd.R_newB ho55 (g := gb180) (o := .cells #[.int .u16 t175, .int .u64 t176, .int .u32 t177, .int .u64 t178, .int .u32 t179] 27 (0, 0)) (by (with_reducible repeat (first | refine blk_drewN ?_ _ | refine blk_drew ?_ | refine blk_alloc ?_ _)); exact BK180.out)) (g := gb187) (o := .cells #[.int .u16 t181, .int .u64 t182, .int .u32 t183, .int .u64 t184, .int .u32 t185] 27 (0, 0)) (by (with_reducible repeat (first | refine blk_drewN ?_ _ | refine blk_drew ?_ | refine blk_alloc ?_ _)); exact BK187.out)) (g := gb194) (o := .cells #[.int .u16 t188, .int .u64 t189, .int .u32 t190, .int .u64 t191, .int .u32 t192] 27 (0, 0)) (by (with_reducible repeat (first | refine blk_drewN ?_ _ | refine blk_drew ?_ | refine blk_alloc ?_ _)); exact BK194.out)) (g := gb200) (o := .cells #[.int .u16 t195, .int .u64 t196, .int .u32 t197, .int .u64 t198, .int .u32 t199] 27 (0, 0)) (by (with_reducible repeat (first | refine blk_drewN ?_ _ | refine blk_drew ?_ | refine blk_alloc ?_ _)); exact BK200.out)) (below_size (by repeat (first | (with_reducible first | exact HB.out | apply below_alloc | apply pw_below_drewN | apply below_drew1 | refine below_set ?_ GE180.out | refine below_set ?_ GE187.out | refine below_set ?_ GE194.out | refine below_set ?_ GE200.out) | exact HB.out)))); have n1_ := Aside0.mk (blk_below (g := gb180) (o := .cells #[.int .u16 t175, .int .u64 t176, .int .u32 t177, .int .u64 t178, .int .u32 t179] 27 (0, 0)) (by (with_reducible repeat (first | refine blk_drewN ?_ _ | refine blk_drew ?_ | refine blk_alloc ?_ _)); exact BK180.out) hb); have n2_ := Aside0.mk (blk_below (g := gb187) (o := .cells #[.int .u16 t181, .int .u64 t182, .int .u32 t183, .int .u64 t184, .int .u32 t185] 27 (0, 0)) (by (with_reducible repeat (first | refine blk_drewN ?_ _ | refine blk_drew ?_ | refine blk_alloc ?_ _)); exact BK187.out) hb); have n3_ := Aside0.mk (blk_below (g := gb194) (o := .cells #[.int .u16 t188, .int .u64 t189, .int .u32 t190, .int .u64 t191, .int .u32 t192] 27 (0, 0)) (by (with_reducible repeat (first | refine blk_drewN ?_ _ | refine blk_drew ?_ | refine blk_alloc ?_ _)); exact BK194.out) hb); have n4_ := Aside0.mk (blk_below (g := gb200) (o := .cells #[.int .u16 t195, .int .u64 t196, .int .u32 t197, .int .u64 t198, .int .u32 t199] 27 (0, 0)) (by (with_reducible repeat (first | refine blk_drewN ?_ _ | refine blk_drew ?_ | refine blk_alloc ?_ _)); exact BK200.out) hb); have n5_ := Aside0.mk (below_step (by repeat (first | (with_reducible first | exact HB.out | apply below_alloc | apply pw_below_drewN | apply below_drew1 | refine below_set ?_ GE180.out | refine below_set ?_ GE187.out | refine below_set ?_ GE194.out | refine below_set ?_ GE200.out) | exact HB.out)) hb); clear BK180; clear BK187; clear BK194; clear BK200; clear HB; have HO203 := n0_; have BK180 := n1_; have BK187 := n2_; have BK194 := n3_; have BK200 := n4_; have HB := n5_; clear n0_ n1_ n2_ n3_ n4_ n5_; clear hb ho55; obtain ⟨Ao56, co56, eo56⟩ := Kd.R_slice HO203.out; subst eo56; have p204 : 0 ≤ (x15_1 : Int) := of_decide_eq_true (by first | (with_reducible assumption) | assumption); have q204 : x15_1 < (y201.length : Int) := of_decide_eq_true (by first | (with_reducible assumption) | assumption); obtain ⟨ad204, e204, hx204_0, hx204_1, hx204_2, hx204_3, hx204_4⟩ := at_T27 (Kd.R_reads' HO203.out).2.2 x15_1 p204 q204; cases e204; replace p204 := eq_true p204; replace q204 := eq_true q204) | ((with_reducible refine gate_callee (f := 8) rfl ?_); refine goesL_ (some 53) rfl rfl Try.func8 (by kernel_rfl) rfl #[.agg #[.int .u16 ((rd_T27 y201 x15_1).f0), .int .u64 ((rd_T27 y201 x15_1).f1), .int .u32 ((rd_T27 y201 x15_1).f2), .int .u64 ((rd_T27 y201 x15_1).f3), .int .u32 ((rd_T27 y201 x15_1).f4)]] rfl (by (try simp only [List.map_toArray, List.map_cons, List.map_nil]); first | done | rfl | (simp only [List.length_drop, List.length_take]; rfl)) ?_; (with_reducible refine (arp_Encode.calls k1 ((rd_T27 y201 x15_1).f0) ((rd_T27 y201 x15_1).f1) ((rd_T27 y201 x15_1).f2) ((rd_T27 y201 x15_1).f3) ((rd_T27 y201 x15_1).f4) t205 t206 _ A30.out).mono ?_); rintro e w57 ⟨rfl, hb⟩; refine ⟨_, rfl, ?_⟩; have n0_ := Aside0.mk (Kd.R_below (by (with_reducible repeat (first | apply Kd.R_alloc | apply Kd.R_drewN | apply Kd.R_drew)); exact HO203.out) hb); have n1_ := Aside0.mk (blk_below (g := gb180) (o := .cells #[.int .u16 t175, .int .u64 t176, .int .u32 t177, .int .u64 t178, .int .u32 t179] 27 (0, 0)) (by (with_reducible repeat (first | refine blk_drewN ?_ _ | refine blk_drew ?_ | refine blk_alloc ?_ _)); exact BK180.out) hb); have n2_ := Aside0.mk (blk_below (g := gb187) (o := .cells #[.int .u16 t181, .int .u64 t182, .int .u32 t183, .int .u64 t184, .int .u32 t185] 27 (0, 0)) (by (with_reducible repeat (first | refine blk_drewN ?_ _ | refine blk_drew ?_ | refine blk_alloc ?_ _)); exact BK187.out) hb); have n3_ := Aside0.mk (blk_below (g := gb194) (o := .cells #[.int .u16 t188, .int .u64 t189, .int .u32 t190, .int .u64 t191, .int .u32 t192] 27 (0, 0)) (by (with_reducible repeat (first | refine blk_drewN ?_ _ | refine blk_drew ?_ | refine blk_alloc ?_ _)); exact BK194.out) hb); have n4_ := Aside0.mk (blk_below (g := gb200) (o := .cells #[.int .u16 t195, .int .u64 t196, .int .u32 t197, .int .u64 t198, .int .u32 t199] 27 (0, 0)) (by (with_reducible repeat (first | refine blk_drewN ?_ _ | refine blk_drew ?_ | refine blk_alloc ?_ _)); exact BK200.out) hb); have n5_ := Aside0.mk (below_step (by repeat (first | (with_reducible first | exact HB.out | apply below_alloc | apply pw_below_drewN | apply below_drew1 | refine below_set ?_ GE180.out | refine below_set ?_ GE187.out | refine below_set ?_ GE194.out | refine below_set ?_ GE200.out) | exact HB.out)) hb); clear HO203; clear BK180; clear BK187; clear BK194; clear BK200; clear HB; have HO203 := n0_; have BK180 := n1_; have BK187 := n2_; have BK194 := n3_; have BK200 := n4_; have HB := n5_; clear n0_ n1_ n2_ n3_ n4_ n5_; (try clear hb); (try clear hb2); (try clear hk); (try clear hi)))
              go_ret
              exact ⟨by first | rfl | (simp [errW_none, errW_some] <;> rfl) | (simp [*, errW_none, errW_some] <;> rfl), by repeat (first | (with_reducible first | exact HB.out | apply below_alloc | apply pw_below_drewN | apply below_drew1 | refine below_set ?_ GE180.out | refine below_set ?_ GE187.out | refine below_set ?_ GE194.out | refine below_set ?_ GE200.out) | exact HB.out)⟩
          · rw [if_neg c29] at H
            exact absurd H (by simp)
        · rw [if_neg c28] at H
          exact absurd H (by simp)
      · rw [if_neg c27] at H
        have c27b0 : decide (x15_1 < 3) = false := decide_eq_false c27
        clear c27
        by_cases c58 : t186 = true
        · subst c58
          have H1 : (if t193 = true then (some false) else (if t183 = a3 then (if t182 = (Go.bits .and .u64 a1 281474976710655) then (if t184 = (Go.bits .and .u64 a0 281474976710655) then (if t185 = a2 then (if t177 = a2 then (if t179 = a3 then (if t176 = (Go.bits .and .u64 a0 281474976710655) then (if t197 = t199 then (if t196 = (Go.bits .and .u64 a0 281474976710655) then ((stevedorelaw08_alive.f).bind fun t207 => (some t207)) else (some false)) else (some false)) else (some false)) else (some false)) else (some false)) else (some false)) else (some false)) else (some false)) else (some false))) = some r := by rw [if_pos rfl] at H; exact H
          clear H
          have H := H1
          clear H1
          by_cases c59 : t193 = true
          · subst c59
            have H1 : (some false) = some r := by rw [if_pos rfl] at H; exact H
            clear H
            have H := H1
            clear H1
            obtain rfl := Option.some.inj H
            go_wp2
            go_ret
            exact ⟨by first | rfl | (simp [errW_none, errW_some] <;> rfl) | (simp [*, errW_none, errW_some] <;> rfl), by repeat (first | (with_reducible first | exact HB.out | apply below_alloc | apply pw_below_drewN | apply below_drew1 | refine below_set ?_ GE180.out | refine below_set ?_ GE187.out | refine below_set ?_ GE194.out | refine below_set ?_ GE200.out) | exact HB.out)⟩
          · replace c59 := Bool.eq_false_iff.mpr c59
            subst c59
            have H1 : (if t183 = a3 then (if t182 = (Go.bits .and .u64 a1 281474976710655) then (if t184 = (Go.bits .and .u64 a0 281474976710655) then (if t185 = a2 then (if t177 = a2 then (if t179 = a3 then (if t176 = (Go.bits .and .u64 a0 281474976710655) then (if t197 = t199 then (if t196 = (Go.bits .and .u64 a0 281474976710655) then ((stevedorelaw08_alive.f).bind fun t207 => (some t207)) else (some false)) else (some false)) else (some false)) else (some false)) else (some false)) else (some false)) else (some false)) else (some false)) else (some false)) = some r := by rw [if_neg (show ¬ (false = true) by decide)] at H; exact H
            clear H
            have H := H1
            clear H1
            by_cases c60 : t183 = a3
            · rw [if_pos c60] at H
              have c60b0 : (t183 == a3) = true := beq_iff_eq.mpr c60
              have c60b1 : (t183 != a3) = false := bne_eq_false_iff_eq.mpr c60
              clear c60
              by_cases c61 : t182 = (Go.bits .and .u64 a1 281474976710655)
              · rw [if_pos c61] at H
                have c61b0 : (t182 == (Go.bits .and .u64 a1 281474976710655)) = true := beq_iff_eq.mpr c61
                have c61b1 : (t182 != (Go.bits .and .u64 a1 281474976710655)) = false := bne_eq_false_iff_eq.mpr c61
                clear c61
                by_cases c62 : t184 = (Go.bits .and .u64 a0 281474976710655)
                · rw [if_pos c62] at H
                  have c62b0 : (t184 == (Go.bits .and .u64 a0 281474976710655)) = true := beq_iff_eq.mpr c62
                  have c62b1 : (t184 != (Go.bits .and .u64 a0 281474976710655)) = false := bne_eq_false_iff_eq.mpr c62
                  clear c62
                  by_cases c63 : t185 = a2
                  · rw [if_pos c63] at H
                    have c63b0 : (t185 == a2) = true := beq_iff_eq.mpr c63
                    have c63b1 : (t185 != a2) = false := bne_eq_false_iff_eq.mpr c63
                    clear c63
                    by_cases c64 : t177 = a2
                    · rw [if_pos c64] at H
                      have c64b0 : (t177 == a2) = true := beq_iff_eq.mpr c64
                      have c64b1 : (t177 != a2) = false := bne_eq_false_iff_eq.mpr c64
                      clear c64
                      by_cases c65 : t179 = a3
                      · rw [if_pos c65] at H
                        have c65b0 : (t179 == a3) = true := beq_iff_eq.mpr c65
                        have c65b1 : (t179 != a3) = false := bne_eq_false_iff_eq.mpr c65
                        clear c65
                        by_cases c66 : t176 = (Go.bits .and .u64 a0 281474976710655)
                        · rw [if_pos c66] at H
                          have c66b0 : (t176 == (Go.bits .and .u64 a0 281474976710655)) = true := beq_iff_eq.mpr c66
                          have c66b1 : (t176 != (Go.bits .and .u64 a0 281474976710655)) = false := bne_eq_false_iff_eq.mpr c66
                          clear c66
                          by_cases c67 : t197 = t199
                          · rw [if_pos c67] at H
                            have c67b0 : (t197 == t199) = true := beq_iff_eq.mpr c67
                            have c67b1 : (t197 != t199) = false := bne_eq_false_iff_eq.mpr c67
                            clear c67
                            by_cases c68 : t196 = (Go.bits .and .u64 a0 281474976710655)
                            · rw [if_pos c68] at H
                              have c68b0 : (t196 == (Go.bits .and .u64 a0 281474976710655)) = true := beq_iff_eq.mpr c68
                              have c68b1 : (t196 != (Go.bits .and .u64 a0 281474976710655)) = false := bne_eq_false_iff_eq.mpr c68
                              clear c68
                              replace H := Option.bind_eq_some_iff.mp H
                              obtain ⟨t207, A690, H⟩ := H
                              replace H : (some t207) = some r := H
                              have A69 := Aside0.mk A690
                              clear A690
                              obtain rfl := Option.some.inj H
                              have hnb70 := NB187_180.out
                              have hnc70 := NB180_187.out
                              have hnb71 := NB187_194.out
                              have hnc71 := NB194_187.out
                              have hnb72 := NB187_200.out
                              have hnc72 := NB200_187.out
                              have hcz73_0 : wr.cell? ⟨gb187, 0, none⟩ = some (.int .u16 t181) := (blk_cell BK187.out 0).trans rfl
                              have hcz73_1 : wr.cell? ⟨gb187, 1, none⟩ = some (.int .u64 t182) := (blk_cell BK187.out 1).trans rfl
                              have hcz73_2 : wr.cell? ⟨gb187, 2, none⟩ = some (.int .u32 t183) := (blk_cell BK187.out 2).trans rfl
                              have hcz73_3 : wr.cell? ⟨gb187, 3, none⟩ = some (.int .u64 t184) := (blk_cell BK187.out 3).trans rfl
                              have hcz73_4 : wr.cell? ⟨gb187, 4, none⟩ = some (.int .u32 t185) := (blk_cell BK187.out 4).trans rfl
                              have hfz73_0 := blk_frozen BK187.out 0
                              have hfz73_1 := blk_frozen BK187.out 1
                              have hfz73_2 := blk_frozen BK187.out 2
                              have hfz73_3 := blk_frozen BK187.out 3
                              have hfz73_4 := blk_frozen BK187.out 4
                              have hnb74 := NB180_194.out
                              have hnc74 := NB194_180.out
                              have hnb75 := NB180_200.out
                              have hnc75 := NB200_180.out
                              have hcz76_0 : wr.cell? ⟨gb180, 0, none⟩ = some (.int .u16 t175) := (blk_cell BK180.out 0).trans rfl
                              have hcz76_1 : wr.cell? ⟨gb180, 1, none⟩ = some (.int .u64 t176) := (blk_cell BK180.out 1).trans rfl
                              have hcz76_2 : wr.cell? ⟨gb180, 2, none⟩ = some (.int .u32 t177) := (blk_cell BK180.out 2).trans rfl
                              have hcz76_3 : wr.cell? ⟨gb180, 3, none⟩ = some (.int .u64 t178) := (blk_cell BK180.out 3).trans rfl
                              have hcz76_4 : wr.cell? ⟨gb180, 4, none⟩ = some (.int .u32 t179) := (blk_cell BK180.out 4).trans rfl
                              have hfz76_0 := blk_frozen BK180.out 0
                              have hfz76_1 := blk_frozen BK180.out 1
                              have hfz76_2 := blk_frozen BK180.out 2
                              have hfz76_3 := blk_frozen BK180.out 3
                              have hfz76_4 := blk_frozen BK180.out 4
                              have hnb77 := NB200_194.out
                              have hnc77 := NB194_200.out
                              have hcz78_0 : wr.cell? ⟨gb200, 0, none⟩ = some (.int .u16 t195) := (blk_cell BK200.out 0).trans rfl
                              have hcz78_1 : wr.cell? ⟨gb200, 1, none⟩ = some (.int .u64 t196) := (blk_cell BK200.out 1).trans rfl
                              have hcz78_2 : wr.cell? ⟨gb200, 2, none⟩ = some (.int .u32 t197) := (blk_cell BK200.out 2).trans rfl
                              have hcz78_3 : wr.cell? ⟨gb200, 3, none⟩ = some (.int .u64 t198) := (blk_cell BK200.out 3).trans rfl
                              have hcz78_4 : wr.cell? ⟨gb200, 4, none⟩ = some (.int .u32 t199) := (blk_cell BK200.out 4).trans rfl
                              have hfz78_0 := blk_frozen BK200.out 0
                              have hfz78_1 := blk_frozen BK200.out 1
                              have hfz78_2 := blk_frozen BK200.out 2
                              have hfz78_3 := blk_frozen BK200.out 3
                              have hfz78_4 := blk_frozen BK200.out 4
                              go_wp2_with (first | (go_at_call 7; (with_reducible refine (stevedorelaw08_alive.calls  t207 _ A69.out).mono ?_); rintro e w79 ⟨rfl, hb⟩; have n0_ := Aside0.mk (blk_below (g := gb180) (o := .cells #[.int .u16 t175, .int .u64 t176, .int .u32 t177, .int .u64 t178, .int .u32 t179] 27 (0, 0)) (by (with_reducible repeat (first | refine blk_drewN ?_ _ | refine blk_drew ?_ | refine blk_alloc ?_ _)); exact BK180.out) hb); have n1_ := Aside0.mk (blk_below (g := gb187) (o := .cells #[.int .u16 t181, .int .u64 t182, .int .u32 t183, .int .u64 t184, .int .u32 t185] 27 (0, 0)) (by (with_reducible repeat (first | refine blk_drewN ?_ _ | refine blk_drew ?_ | refine blk_alloc ?_ _)); exact BK187.out) hb); have n2_ := Aside0.mk (blk_below (g := gb194) (o := .cells #[.int .u16 t188, .int .u64 t189, .int .u32 t190, .int .u64 t191, .int .u32 t192] 27 (0, 0)) (by (with_reducible repeat (first | refine blk_drewN ?_ _ | refine blk_drew ?_ | refine blk_alloc ?_ _)); exact BK194.out) hb); have n3_ := Aside0.mk (blk_below (g := gb200) (o := .cells #[.int .u16 t195, .int .u64 t196, .int .u32 t197, .int .u64 t198, .int .u32 t199] 27 (0, 0)) (by (with_reducible repeat (first | refine blk_drewN ?_ _ | refine blk_drew ?_ | refine blk_alloc ?_ _)); exact BK200.out) hb); have n4_ := Aside0.mk (below_step (by repeat (first | (with_reducible first | exact HB.out | apply below_alloc | apply pw_below_drewN | apply below_drew1 | refine below_set ?_ GE180.out | refine below_set ?_ GE187.out | refine below_set ?_ GE194.out | refine below_set ?_ GE200.out) | exact HB.out)) hb); clear BK180; clear BK187; clear BK194; clear BK200; clear HB; have BK180 := n0_; have BK187 := n1_; have BK194 := n2_; have BK200 := n3_; have HB := n4_; clear n0_ n1_ n2_ n3_ n4_; (try clear hb); (try clear hb2); (try clear hk); (try clear hi)))
                              go_ret
                              exact ⟨by first | rfl | (simp [errW_none, errW_some] <;> rfl) | (simp [*, errW_none, errW_some] <;> rfl), by repeat (first | (with_reducible first | exact HB.out | apply below_alloc | apply pw_below_drewN | apply below_drew1 | refine below_set ?_ GE180.out | refine below_set ?_ GE187.out | refine below_set ?_ GE194.out | refine below_set ?_ GE200.out) | exact HB.out)⟩
                            · rw [if_neg c68] at H
                              have c68b0 : (t196 == (Go.bits .and .u64 a0 281474976710655)) = false := beq_eq_false_iff_ne.mpr c68
                              have c68b1 : (t196 != (Go.bits .and .u64 a0 281474976710655)) = true := bne_iff_ne.mpr c68
                              obtain rfl := Option.some.inj H
                              have hnb80 := NB187_180.out
                              have hnc80 := NB180_187.out
                              have hnb81 := NB187_194.out
                              have hnc81 := NB194_187.out
                              have hnb82 := NB187_200.out
                              have hnc82 := NB200_187.out
                              have hcz83_0 : wr.cell? ⟨gb187, 0, none⟩ = some (.int .u16 t181) := (blk_cell BK187.out 0).trans rfl
                              have hcz83_1 : wr.cell? ⟨gb187, 1, none⟩ = some (.int .u64 t182) := (blk_cell BK187.out 1).trans rfl
                              have hcz83_2 : wr.cell? ⟨gb187, 2, none⟩ = some (.int .u32 t183) := (blk_cell BK187.out 2).trans rfl
                              have hcz83_3 : wr.cell? ⟨gb187, 3, none⟩ = some (.int .u64 t184) := (blk_cell BK187.out 3).trans rfl
                              have hcz83_4 : wr.cell? ⟨gb187, 4, none⟩ = some (.int .u32 t185) := (blk_cell BK187.out 4).trans rfl
                              have hfz83_0 := blk_frozen BK187.out 0
                              have hfz83_1 := blk_frozen BK187.out 1
                              have hfz83_2 := blk_frozen BK187.out 2
                              have hfz83_3 := blk_frozen BK187.out 3
                              have hfz83_4 := blk_frozen BK187.out 4
                              have hnb84 := NB180_194.out
                              have hnc84 := NB194_180.out
                              have hnb85 := NB180_200.out
                              have hnc85 := NB200_180.out
                              have hcz86_0 : wr.cell? ⟨gb180, 0, none⟩ = some (.int .u16 t175) := (blk_cell BK180.out 0).trans rfl
                              have hcz86_1 : wr.cell? ⟨gb180, 1, none⟩ = some (.int .u64 t176) := (blk_cell BK180.out 1).trans rfl
                              have hcz86_2 : wr.cell? ⟨gb180, 2, none⟩ = some (.int .u32 t177) := (blk_cell BK180.out 2).trans rfl
                              have hcz86_3 : wr.cell? ⟨gb180, 3, none⟩ = some (.int .u64 t178) := (blk_cell BK180.out 3).trans rfl
                              have hcz86_4 : wr.cell? ⟨gb180, 4, none⟩ = some (.int .u32 t179) := (blk_cell BK180.out 4).trans rfl
                              have hfz86_0 := blk_frozen BK180.out 0
                              have hfz86_1 := blk_frozen BK180.out 1
                              have hfz86_2 := blk_frozen BK180.out 2
                              have hfz86_3 := blk_frozen BK180.out 3
                              have hfz86_4 := blk_frozen BK180.out 4
                              have hnb87 := NB200_194.out
                              have hnc87 := NB194_200.out
                              have hcz88_0 : wr.cell? ⟨gb200, 0, none⟩ = some (.int .u16 t195) := (blk_cell BK200.out 0).trans rfl
                              have hcz88_1 : wr.cell? ⟨gb200, 1, none⟩ = some (.int .u64 t196) := (blk_cell BK200.out 1).trans rfl
                              have hcz88_2 : wr.cell? ⟨gb200, 2, none⟩ = some (.int .u32 t197) := (blk_cell BK200.out 2).trans rfl
                              have hcz88_3 : wr.cell? ⟨gb200, 3, none⟩ = some (.int .u64 t198) := (blk_cell BK200.out 3).trans rfl
                              have hcz88_4 : wr.cell? ⟨gb200, 4, none⟩ = some (.int .u32 t199) := (blk_cell BK200.out 4).trans rfl
                              have hfz88_0 := blk_frozen BK200.out 0
                              have hfz88_1 := blk_frozen BK200.out 1
                              have hfz88_2 := blk_frozen BK200.out 2
                              have hfz88_3 := blk_frozen BK200.out 3
                              have hfz88_4 := blk_frozen BK200.out 4
                              go_wp2
                              go_ret
                              exact ⟨by first | rfl | (simp [errW_none, errW_some] <;> rfl) | (simp [*, errW_none, errW_some] <;> rfl), by repeat (first | (with_reducible first | exact HB.out | apply below_alloc | apply pw_below_drewN | apply below_drew1 | refine below_set ?_ GE180.out | refine below_set ?_ GE187.out | refine below_set ?_ GE194.out | refine below_set ?_ GE200.out) | exact HB.out)⟩
                          · rw [if_neg c67] at H
                            have c67b0 : (t197 == t199) = false := beq_eq_false_iff_ne.mpr c67
                            have c67b1 : (t197 != t199) = true := bne_iff_ne.mpr c67
                            obtain rfl := Option.some.inj H
                            have hnb89 := NB187_180.out
                            have hnc89 := NB180_187.out
                            have hnb90 := NB187_194.out
                            have hnc90 := NB194_187.out
                            have hnb91 := NB187_200.out
                            have hnc91 := NB200_187.out
                            have hcz92_0 : wr.cell? ⟨gb187, 0, none⟩ = some (.int .u16 t181) := (blk_cell BK187.out 0).trans rfl
                            have hcz92_1 : wr.cell? ⟨gb187, 1, none⟩ = some (.int .u64 t182) := (blk_cell BK187.out 1).trans rfl
                            have hcz92_2 : wr.cell? ⟨gb187, 2, none⟩ = some (.int .u32 t183) := (blk_cell BK187.out 2).trans rfl
                            have hcz92_3 : wr.cell? ⟨gb187, 3, none⟩ = some (.int .u64 t184) := (blk_cell BK187.out 3).trans rfl
                            have hcz92_4 : wr.cell? ⟨gb187, 4, none⟩ = some (.int .u32 t185) := (blk_cell BK187.out 4).trans rfl
                            have hfz92_0 := blk_frozen BK187.out 0
                            have hfz92_1 := blk_frozen BK187.out 1
                            have hfz92_2 := blk_frozen BK187.out 2
                            have hfz92_3 := blk_frozen BK187.out 3
                            have hfz92_4 := blk_frozen BK187.out 4
                            have hnb93 := NB180_194.out
                            have hnc93 := NB194_180.out
                            have hnb94 := NB180_200.out
                            have hnc94 := NB200_180.out
                            have hcz95_0 : wr.cell? ⟨gb180, 0, none⟩ = some (.int .u16 t175) := (blk_cell BK180.out 0).trans rfl
                            have hcz95_1 : wr.cell? ⟨gb180, 1, none⟩ = some (.int .u64 t176) := (blk_cell BK180.out 1).trans rfl
                            have hcz95_2 : wr.cell? ⟨gb180, 2, none⟩ = some (.int .u32 t177) := (blk_cell BK180.out 2).trans rfl
                            have hcz95_3 : wr.cell? ⟨gb180, 3, none⟩ = some (.int .u64 t178) := (blk_cell BK180.out 3).trans rfl
                            have hcz95_4 : wr.cell? ⟨gb180, 4, none⟩ = some (.int .u32 t179) := (blk_cell BK180.out 4).trans rfl
                            have hfz95_0 := blk_frozen BK180.out 0
                            have hfz95_1 := blk_frozen BK180.out 1
                            have hfz95_2 := blk_frozen BK180.out 2
                            have hfz95_3 := blk_frozen BK180.out 3
                            have hfz95_4 := blk_frozen BK180.out 4
                            have hnb96 := NB200_194.out
                            have hnc96 := NB194_200.out
                            have hcz97_0 : wr.cell? ⟨gb200, 0, none⟩ = some (.int .u16 t195) := (blk_cell BK200.out 0).trans rfl
                            have hcz97_1 : wr.cell? ⟨gb200, 1, none⟩ = some (.int .u64 t196) := (blk_cell BK200.out 1).trans rfl
                            have hcz97_2 : wr.cell? ⟨gb200, 2, none⟩ = some (.int .u32 t197) := (blk_cell BK200.out 2).trans rfl
                            have hcz97_3 : wr.cell? ⟨gb200, 3, none⟩ = some (.int .u64 t198) := (blk_cell BK200.out 3).trans rfl
                            have hcz97_4 : wr.cell? ⟨gb200, 4, none⟩ = some (.int .u32 t199) := (blk_cell BK200.out 4).trans rfl
                            have hfz97_0 := blk_frozen BK200.out 0
                            have hfz97_1 := blk_frozen BK200.out 1
                            have hfz97_2 := blk_frozen BK200.out 2
                            have hfz97_3 := blk_frozen BK200.out 3
                            have hfz97_4 := blk_frozen BK200.out 4
                            go_wp2
                            go_ret
                            exact ⟨by first | rfl | (simp [errW_none, errW_some] <;> rfl) | (simp [*, errW_none, errW_some] <;> rfl), by repeat (first | (with_reducible first | exact HB.out | apply below_alloc | apply pw_below_drewN | apply below_drew1 | refine below_set ?_ GE180.out | refine below_set ?_ GE187.out | refine below_set ?_ GE194.out | refine below_set ?_ GE200.out) | exact HB.out)⟩
                        · rw [if_neg c66] at H
                          have c66b0 : (t176 == (Go.bits .and .u64 a0 281474976710655)) = false := beq_eq_false_iff_ne.mpr c66
                          have c66b1 : (t176 != (Go.bits .and .u64 a0 281474976710655)) = true := bne_iff_ne.mpr c66
                          obtain rfl := Option.some.inj H
                          have hnb98 := NB187_180.out
                          have hnc98 := NB180_187.out
                          have hnb99 := NB187_194.out
                          have hnc99 := NB194_187.out
                          have hnb100 := NB187_200.out
                          have hnc100 := NB200_187.out
                          have hcz101_0 : wr.cell? ⟨gb187, 0, none⟩ = some (.int .u16 t181) := (blk_cell BK187.out 0).trans rfl
                          have hcz101_1 : wr.cell? ⟨gb187, 1, none⟩ = some (.int .u64 t182) := (blk_cell BK187.out 1).trans rfl
                          have hcz101_2 : wr.cell? ⟨gb187, 2, none⟩ = some (.int .u32 t183) := (blk_cell BK187.out 2).trans rfl
                          have hcz101_3 : wr.cell? ⟨gb187, 3, none⟩ = some (.int .u64 t184) := (blk_cell BK187.out 3).trans rfl
                          have hcz101_4 : wr.cell? ⟨gb187, 4, none⟩ = some (.int .u32 t185) := (blk_cell BK187.out 4).trans rfl
                          have hfz101_0 := blk_frozen BK187.out 0
                          have hfz101_1 := blk_frozen BK187.out 1
                          have hfz101_2 := blk_frozen BK187.out 2
                          have hfz101_3 := blk_frozen BK187.out 3
                          have hfz101_4 := blk_frozen BK187.out 4
                          have hnb102 := NB180_194.out
                          have hnc102 := NB194_180.out
                          have hnb103 := NB180_200.out
                          have hnc103 := NB200_180.out
                          have hcz104_0 : wr.cell? ⟨gb180, 0, none⟩ = some (.int .u16 t175) := (blk_cell BK180.out 0).trans rfl
                          have hcz104_1 : wr.cell? ⟨gb180, 1, none⟩ = some (.int .u64 t176) := (blk_cell BK180.out 1).trans rfl
                          have hcz104_2 : wr.cell? ⟨gb180, 2, none⟩ = some (.int .u32 t177) := (blk_cell BK180.out 2).trans rfl
                          have hcz104_3 : wr.cell? ⟨gb180, 3, none⟩ = some (.int .u64 t178) := (blk_cell BK180.out 3).trans rfl
                          have hcz104_4 : wr.cell? ⟨gb180, 4, none⟩ = some (.int .u32 t179) := (blk_cell BK180.out 4).trans rfl
                          have hfz104_0 := blk_frozen BK180.out 0
                          have hfz104_1 := blk_frozen BK180.out 1
                          have hfz104_2 := blk_frozen BK180.out 2
                          have hfz104_3 := blk_frozen BK180.out 3
                          have hfz104_4 := blk_frozen BK180.out 4
                          go_wp2
                          go_ret
                          exact ⟨by first | rfl | (simp [errW_none, errW_some] <;> rfl) | (simp [*, errW_none, errW_some] <;> rfl), by repeat (first | (with_reducible first | exact HB.out | apply below_alloc | apply pw_below_drewN | apply below_drew1 | refine below_set ?_ GE180.out | refine below_set ?_ GE187.out | refine below_set ?_ GE194.out | refine below_set ?_ GE200.out) | exact HB.out)⟩
                      · rw [if_neg c65] at H
                        have c65b0 : (t179 == a3) = false := beq_eq_false_iff_ne.mpr c65
                        have c65b1 : (t179 != a3) = true := bne_iff_ne.mpr c65
                        obtain rfl := Option.some.inj H
                        have hnb105 := NB187_180.out
                        have hnc105 := NB180_187.out
                        have hnb106 := NB187_194.out
                        have hnc106 := NB194_187.out
                        have hnb107 := NB187_200.out
                        have hnc107 := NB200_187.out
                        have hcz108_0 : wr.cell? ⟨gb187, 0, none⟩ = some (.int .u16 t181) := (blk_cell BK187.out 0).trans rfl
                        have hcz108_1 : wr.cell? ⟨gb187, 1, none⟩ = some (.int .u64 t182) := (blk_cell BK187.out 1).trans rfl
                        have hcz108_2 : wr.cell? ⟨gb187, 2, none⟩ = some (.int .u32 t183) := (blk_cell BK187.out 2).trans rfl
                        have hcz108_3 : wr.cell? ⟨gb187, 3, none⟩ = some (.int .u64 t184) := (blk_cell BK187.out 3).trans rfl
                        have hcz108_4 : wr.cell? ⟨gb187, 4, none⟩ = some (.int .u32 t185) := (blk_cell BK187.out 4).trans rfl
                        have hfz108_0 := blk_frozen BK187.out 0
                        have hfz108_1 := blk_frozen BK187.out 1
                        have hfz108_2 := blk_frozen BK187.out 2
                        have hfz108_3 := blk_frozen BK187.out 3
                        have hfz108_4 := blk_frozen BK187.out 4
                        have hnb109 := NB180_194.out
                        have hnc109 := NB194_180.out
                        have hnb110 := NB180_200.out
                        have hnc110 := NB200_180.out
                        have hcz111_0 : wr.cell? ⟨gb180, 0, none⟩ = some (.int .u16 t175) := (blk_cell BK180.out 0).trans rfl
                        have hcz111_1 : wr.cell? ⟨gb180, 1, none⟩ = some (.int .u64 t176) := (blk_cell BK180.out 1).trans rfl
                        have hcz111_2 : wr.cell? ⟨gb180, 2, none⟩ = some (.int .u32 t177) := (blk_cell BK180.out 2).trans rfl
                        have hcz111_3 : wr.cell? ⟨gb180, 3, none⟩ = some (.int .u64 t178) := (blk_cell BK180.out 3).trans rfl
                        have hcz111_4 : wr.cell? ⟨gb180, 4, none⟩ = some (.int .u32 t179) := (blk_cell BK180.out 4).trans rfl
                        have hfz111_0 := blk_frozen BK180.out 0
                        have hfz111_1 := blk_frozen BK180.out 1
                        have hfz111_2 := blk_frozen BK180.out 2
                        have hfz111_3 := blk_frozen BK180.out 3
                        have hfz111_4 := blk_frozen BK180.out 4
                        go_wp2
                        go_ret
                        exact ⟨by first | rfl | (simp [errW_none, errW_some] <;> rfl) | (simp [*, errW_none, errW_some] <;> rfl), by repeat (first | (with_reducible first | exact HB.out | apply below_alloc | apply pw_below_drewN | apply below_drew1 | refine below_set ?_ GE180.out | refine below_set ?_ GE187.out | refine below_set ?_ GE194.out | refine below_set ?_ GE200.out) | exact HB.out)⟩
                    · rw [if_neg c64] at H
                      have c64b0 : (t177 == a2) = false := beq_eq_false_iff_ne.mpr c64
                      have c64b1 : (t177 != a2) = true := bne_iff_ne.mpr c64
                      obtain rfl := Option.some.inj H
                      have hnb112 := NB187_180.out
                      have hnc112 := NB180_187.out
                      have hnb113 := NB187_194.out
                      have hnc113 := NB194_187.out
                      have hnb114 := NB187_200.out
                      have hnc114 := NB200_187.out
                      have hcz115_0 : wr.cell? ⟨gb187, 0, none⟩ = some (.int .u16 t181) := (blk_cell BK187.out 0).trans rfl
                      have hcz115_1 : wr.cell? ⟨gb187, 1, none⟩ = some (.int .u64 t182) := (blk_cell BK187.out 1).trans rfl
                      have hcz115_2 : wr.cell? ⟨gb187, 2, none⟩ = some (.int .u32 t183) := (blk_cell BK187.out 2).trans rfl
                      have hcz115_3 : wr.cell? ⟨gb187, 3, none⟩ = some (.int .u64 t184) := (blk_cell BK187.out 3).trans rfl
                      have hcz115_4 : wr.cell? ⟨gb187, 4, none⟩ = some (.int .u32 t185) := (blk_cell BK187.out 4).trans rfl
                      have hfz115_0 := blk_frozen BK187.out 0
                      have hfz115_1 := blk_frozen BK187.out 1
                      have hfz115_2 := blk_frozen BK187.out 2
                      have hfz115_3 := blk_frozen BK187.out 3
                      have hfz115_4 := blk_frozen BK187.out 4
                      have hnb116 := NB180_194.out
                      have hnc116 := NB194_180.out
                      have hnb117 := NB180_200.out
                      have hnc117 := NB200_180.out
                      have hcz118_0 : wr.cell? ⟨gb180, 0, none⟩ = some (.int .u16 t175) := (blk_cell BK180.out 0).trans rfl
                      have hcz118_1 : wr.cell? ⟨gb180, 1, none⟩ = some (.int .u64 t176) := (blk_cell BK180.out 1).trans rfl
                      have hcz118_2 : wr.cell? ⟨gb180, 2, none⟩ = some (.int .u32 t177) := (blk_cell BK180.out 2).trans rfl
                      have hcz118_3 : wr.cell? ⟨gb180, 3, none⟩ = some (.int .u64 t178) := (blk_cell BK180.out 3).trans rfl
                      have hcz118_4 : wr.cell? ⟨gb180, 4, none⟩ = some (.int .u32 t179) := (blk_cell BK180.out 4).trans rfl
                      have hfz118_0 := blk_frozen BK180.out 0
                      have hfz118_1 := blk_frozen BK180.out 1
                      have hfz118_2 := blk_frozen BK180.out 2
                      have hfz118_3 := blk_frozen BK180.out 3
                      have hfz118_4 := blk_frozen BK180.out 4
                      go_wp2
                      go_ret
                      exact ⟨by first | rfl | (simp [errW_none, errW_some] <;> rfl) | (simp [*, errW_none, errW_some] <;> rfl), by repeat (first | (with_reducible first | exact HB.out | apply below_alloc | apply pw_below_drewN | apply below_drew1 | refine below_set ?_ GE180.out | refine below_set ?_ GE187.out | refine below_set ?_ GE194.out | refine below_set ?_ GE200.out) | exact HB.out)⟩
                  · rw [if_neg c63] at H
                    have c63b0 : (t185 == a2) = false := beq_eq_false_iff_ne.mpr c63
                    have c63b1 : (t185 != a2) = true := bne_iff_ne.mpr c63
                    obtain rfl := Option.some.inj H
                    have hnb119 := NB187_180.out
                    have hnc119 := NB180_187.out
                    have hnb120 := NB187_194.out
                    have hnc120 := NB194_187.out
                    have hnb121 := NB187_200.out
                    have hnc121 := NB200_187.out
                    have hcz122_0 : wr.cell? ⟨gb187, 0, none⟩ = some (.int .u16 t181) := (blk_cell BK187.out 0).trans rfl
                    have hcz122_1 : wr.cell? ⟨gb187, 1, none⟩ = some (.int .u64 t182) := (blk_cell BK187.out 1).trans rfl
                    have hcz122_2 : wr.cell? ⟨gb187, 2, none⟩ = some (.int .u32 t183) := (blk_cell BK187.out 2).trans rfl
                    have hcz122_3 : wr.cell? ⟨gb187, 3, none⟩ = some (.int .u64 t184) := (blk_cell BK187.out 3).trans rfl
                    have hcz122_4 : wr.cell? ⟨gb187, 4, none⟩ = some (.int .u32 t185) := (blk_cell BK187.out 4).trans rfl
                    have hfz122_0 := blk_frozen BK187.out 0
                    have hfz122_1 := blk_frozen BK187.out 1
                    have hfz122_2 := blk_frozen BK187.out 2
                    have hfz122_3 := blk_frozen BK187.out 3
                    have hfz122_4 := blk_frozen BK187.out 4
                    go_wp2
                    go_ret
                    exact ⟨by first | rfl | (simp [errW_none, errW_some] <;> rfl) | (simp [*, errW_none, errW_some] <;> rfl), by repeat (first | (with_reducible first | exact HB.out | apply below_alloc | apply pw_below_drewN | apply below_drew1 | refine below_set ?_ GE180.out | refine below_set ?_ GE187.out | refine below_set ?_ GE194.out | refine below_set ?_ GE200.out) | exact HB.out)⟩
                · rw [if_neg c62] at H
                  have c62b0 : (t184 == (Go.bits .and .u64 a0 281474976710655)) = false := beq_eq_false_iff_ne.mpr c62
                  have c62b1 : (t184 != (Go.bits .and .u64 a0 281474976710655)) = true := bne_iff_ne.mpr c62
                  obtain rfl := Option.some.inj H
                  have hnb123 := NB187_180.out
                  have hnc123 := NB180_187.out
                  have hnb124 := NB187_194.out
                  have hnc124 := NB194_187.out
                  have hnb125 := NB187_200.out
                  have hnc125 := NB200_187.out
                  have hcz126_0 : wr.cell? ⟨gb187, 0, none⟩ = some (.int .u16 t181) := (blk_cell BK187.out 0).trans rfl
                  have hcz126_1 : wr.cell? ⟨gb187, 1, none⟩ = some (.int .u64 t182) := (blk_cell BK187.out 1).trans rfl
                  have hcz126_2 : wr.cell? ⟨gb187, 2, none⟩ = some (.int .u32 t183) := (blk_cell BK187.out 2).trans rfl
                  have hcz126_3 : wr.cell? ⟨gb187, 3, none⟩ = some (.int .u64 t184) := (blk_cell BK187.out 3).trans rfl
                  have hcz126_4 : wr.cell? ⟨gb187, 4, none⟩ = some (.int .u32 t185) := (blk_cell BK187.out 4).trans rfl
                  have hfz126_0 := blk_frozen BK187.out 0
                  have hfz126_1 := blk_frozen BK187.out 1
                  have hfz126_2 := blk_frozen BK187.out 2
                  have hfz126_3 := blk_frozen BK187.out 3
                  have hfz126_4 := blk_frozen BK187.out 4
                  go_wp2
                  go_ret
                  exact ⟨by first | rfl | (simp [errW_none, errW_some] <;> rfl) | (simp [*, errW_none, errW_some] <;> rfl), by repeat (first | (with_reducible first | exact HB.out | apply below_alloc | apply pw_below_drewN | apply below_drew1 | refine below_set ?_ GE180.out | refine below_set ?_ GE187.out | refine below_set ?_ GE194.out | refine below_set ?_ GE200.out) | exact HB.out)⟩
              · rw [if_neg c61] at H
                have c61b0 : (t182 == (Go.bits .and .u64 a1 281474976710655)) = false := beq_eq_false_iff_ne.mpr c61
                have c61b1 : (t182 != (Go.bits .and .u64 a1 281474976710655)) = true := bne_iff_ne.mpr c61
                obtain rfl := Option.some.inj H
                have hnb127 := NB187_180.out
                have hnc127 := NB180_187.out
                have hnb128 := NB187_194.out
                have hnc128 := NB194_187.out
                have hnb129 := NB187_200.out
                have hnc129 := NB200_187.out
                have hcz130_0 : wr.cell? ⟨gb187, 0, none⟩ = some (.int .u16 t181) := (blk_cell BK187.out 0).trans rfl
                have hcz130_1 : wr.cell? ⟨gb187, 1, none⟩ = some (.int .u64 t182) := (blk_cell BK187.out 1).trans rfl
                have hcz130_2 : wr.cell? ⟨gb187, 2, none⟩ = some (.int .u32 t183) := (blk_cell BK187.out 2).trans rfl
                have hcz130_3 : wr.cell? ⟨gb187, 3, none⟩ = some (.int .u64 t184) := (blk_cell BK187.out 3).trans rfl
                have hcz130_4 : wr.cell? ⟨gb187, 4, none⟩ = some (.int .u32 t185) := (blk_cell BK187.out 4).trans rfl
                have hfz130_0 := blk_frozen BK187.out 0
                have hfz130_1 := blk_frozen BK187.out 1
                have hfz130_2 := blk_frozen BK187.out 2
                have hfz130_3 := blk_frozen BK187.out 3
                have hfz130_4 := blk_frozen BK187.out 4
                go_wp2
                go_ret
                exact ⟨by first | rfl | (simp [errW_none, errW_some] <;> rfl) | (simp [*, errW_none, errW_some] <;> rfl), by repeat (first | (with_reducible first | exact HB.out | apply below_alloc | apply pw_below_drewN | apply below_drew1 | refine below_set ?_ GE180.out | refine below_set ?_ GE187.out | refine below_set ?_ GE194.out | refine below_set ?_ GE200.out) | exact HB.out)⟩
            · rw [if_neg c60] at H
              have c60b0 : (t183 == a3) = false := beq_eq_false_iff_ne.mpr c60
              have c60b1 : (t183 != a3) = true := bne_iff_ne.mpr c60
              obtain rfl := Option.some.inj H
              have hnb131 := NB187_180.out
              have hnc131 := NB180_187.out
              have hnb132 := NB187_194.out
              have hnc132 := NB194_187.out
              have hnb133 := NB187_200.out
              have hnc133 := NB200_187.out
              have hcz134_0 : wr.cell? ⟨gb187, 0, none⟩ = some (.int .u16 t181) := (blk_cell BK187.out 0).trans rfl
              have hcz134_1 : wr.cell? ⟨gb187, 1, none⟩ = some (.int .u64 t182) := (blk_cell BK187.out 1).trans rfl
              have hcz134_2 : wr.cell? ⟨gb187, 2, none⟩ = some (.int .u32 t183) := (blk_cell BK187.out 2).trans rfl
              have hcz134_3 : wr.cell? ⟨gb187, 3, none⟩ = some (.int .u64 t184) := (blk_cell BK187.out 3).trans rfl
              have hcz134_4 : wr.cell? ⟨gb187, 4, none⟩ = some (.int .u32 t185) := (blk_cell BK187.out 4).trans rfl
              have hfz134_0 := blk_frozen BK187.out 0
              have hfz134_1 := blk_frozen BK187.out 1
              have hfz134_2 := blk_frozen BK187.out 2
              have hfz134_3 := blk_frozen BK187.out 3
              have hfz134_4 := blk_frozen BK187.out 4
              go_wp2
              go_ret
              exact ⟨by first | rfl | (simp [errW_none, errW_some] <;> rfl) | (simp [*, errW_none, errW_some] <;> rfl), by repeat (first | (with_reducible first | exact HB.out | apply below_alloc | apply pw_below_drewN | apply below_drew1 | refine below_set ?_ GE180.out | refine below_set ?_ GE187.out | refine below_set ?_ GE194.out | refine below_set ?_ GE200.out) | exact HB.out)⟩
        · replace c58 := Bool.eq_false_iff.mpr c58
          subst c58
          have H1 : (some false) = some r := by rw [if_neg (show ¬ (false = true) by decide)] at H; exact H
          clear H
          have H := H1
          clear H1
          obtain rfl := Option.some.inj H
          go_wp2
          go_ret
          exact ⟨by first | rfl | (simp [errW_none, errW_some] <;> rfl) | (simp [*, errW_none, errW_some] <;> rfl), by repeat (first | (with_reducible first | exact HB.out | apply below_alloc | apply pw_below_drewN | apply below_drew1 | refine below_set ?_ GE180.out | refine below_set ?_ GE187.out | refine below_set ?_ GE194.out | refine below_set ?_ GE200.out) | exact HB.out)⟩

/-- THE ONE PURE STATEMENT of stevedorelaw08_ArpTalk: yours. -/
def stevedorelaw08_ArpTalk.Pure : Prop := ∀ (a0 : Int) (a1 : Int) (a2 : Int) (a3 : Int), (Lit.int .u64 a0).wf = true → (Lit.int .u64 a1).wf = true → (Lit.int .u32 a2).wf = true → (Lit.int .u32 a3).wf = true → ∃ k, stevedorelaw08_ArpTalk.f k a0 a1 a2 a3 = some true
theorem stevedorelaw08_ArpTalk.walk (P : stevedorelaw08_ArpTalk.Pure) (a0 : Int) (a1 : Int) (a2 : Int) (a3 : Int) (w : World) (w0 : (Lit.int .u64 a0).wf = true) (w1 : (Lit.int .u64 a1).wf = true) (w2 : (Lit.int .u32 a2).wf = true) (w3 : (Lit.int .u32 a3).wf = true) :
    Calls Try.prog 6 #[.int .u64 a0, .int .u64 a1, .int .u32 a2, .int .u32 a3] w fun e w' => e = .returned (.bool true) ∧ Below w.heap.size w w' := by
  obtain ⟨k, h⟩ := P a0 a1 a2 a3 w0 w1 w2 w3
  refine (stevedorelaw08_ArpTalk.calls k a0 a1 a2 a3 true w h).mono ?_
  rintro e w' ⟨rfl, hd⟩
  exact ⟨rfl, hd⟩

end Go.Proofs.Ytonpfbhfcefhcaa.PArpTalk
