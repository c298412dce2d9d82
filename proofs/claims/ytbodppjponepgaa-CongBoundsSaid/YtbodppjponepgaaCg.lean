import Derived.Test.YtbodppjponepgaaProg
import Derived.Test.YtbodppjponepgaaObj
import Derived.Test.YtbodppjponepgaaWWords
import Derived.Test.YtbodppjponepgaaWMore
import Derived.FnLit
import Derived.Outline
import Derived.Lib.Hide
import Derived.Tactics
import Derived.RegionTactic
import Derived.BigRegion
import Derived.LoopTactic
import Derived.OwnWalk
import Derived.StillTailTactics
import Derived.Deep.QuietTactic
import Derived.BigQuiet
import Derived.WideLaws
import Derived.Laws.IdiomCopy
namespace Go.Proofs.Ytbodppjponepgaa.Cg
open Go.RowKit Blk Go.Proofs.YtbodppjponepgaaW.PrintWords Go.Proofs.YtbodppjponepgaaW.PrintMore
attribute [local go_sem] max2_int min2_int max_two min_two
set_option linter.unusedVariables false

structure St where
  mss : Int
  window : Int
  edge : Int
  state : Int
  twices : Int
  counted : Int
  mark : Option Int
deriving DecidableEq

def St.cells (s : St) (mp : Option Addr) : List Value := [.int .i64 s.mss, .int .i64 s.window, .int .i64 s.edge, .int .u8 s.state, .int .i64 s.twices, .int .i64 s.counted, .pointer mp]

/-- Where the mark lies. -/
def Mark (w : World) (b : Nat) (m : Option Int) (mp : Option Addr) : Prop :=
  (m = none ∧ mp = none) ∨ ∃ x k, m = some x ∧ mp = some ⟨k, 0, none⟩ ∧ k ≠ b ∧ Has w k [.int .u32 x] 23
/-- The state s lies at block b. -/
def At (w : World) (b : Nat) (s : St) : Prop := ∃ mp, Has w b (s.cells mp) 47 ∧ Mark w b s.mark mp

structure St.Ok (s : St) (K : Int) : Prop where
  m0 : 1 ≤ s.mss
  m1 : s.mss ≤ 65535
  w0 : 0 ≤ s.window
  w1 : s.window ≤ 1073741824
  e0 : 0 ≤ s.edge
  e1 : s.edge ≤ 1073741824
  t0 : 0 ≤ s.twices
  t1 : s.twices ≤ K
  c0 : 0 ≤ s.counted
  c1 : s.counted ≤ K * 1073741824
  st : s.state = 0 ∨ s.state = 1 ∨ s.state = 2
  mark_u : ∀ x, s.mark = some x → 0 ≤ x ∧ x ≤ 4294967295

def cap (n : Int) : Int := mn n 1073741824

theorem set_eq {w : World} {b i : Nat} {k : IntKind} {x y : Int} (h : x = y) : w.setCell ⟨b, i, none⟩ (.int k x) = w.setCell ⟨b, i, none⟩ (.int k y) := by rw [h]

set_option maxHeartbeats 1000000 in
theorem to_c (b : Nat) (n v : Int) (w : World) (c1 : w.cell? ⟨b, 1, none⟩ = some (.int .i64 v)) (f1 : w.frozen? ⟨b, 1, none⟩ = false) :
    Calls Try.prog 20 #[.pointer (some ⟨b, 0, none⟩), .int .i64 n] w fun e w' => e = .returned (.tuple #[]) ∧ w' = w.setCell ⟨b, 1, none⟩ (.int .i64 (cap n)) := by
  go_enter Try.func20, Try.ntmps20
  go_wp2
  all_goals (go_end0; exact ⟨rfl, set_eq (by unfold cap mn; (repeat' split) <;> omega)⟩)

theorem half_bd (x : Int) (h : -9223372036854775808 ≤ x ∧ x ≤ 9223372036854775807) : -9223372036854775808 ≤ x.tdiv 2 ∧ x.tdiv 2 ≤ 9223372036854775807 := by
  by_cases c : x < 0
  · obtain ⟨y, rfl⟩ : ∃ y, x = -y := ⟨-x, by omega⟩
    rw [Int.neg_tdiv, Int.tdiv_eq_ediv_of_nonneg (by omega)]
    omega
  · rw [Int.tdiv_eq_ediv_of_nonneg (by omega)]
    omega
theorem half_wrap (x : Int) (h : -9223372036854775808 ≤ x ∧ x ≤ 9223372036854775807) : wrap64 (x.tdiv 2) = x.tdiv 2 := by
  have := half_bd x h
  unfold wrap64; omega
set_option maxHeartbeats 1000000 in
theorem lost_c (s : St) (b : Nat) (mp : Option Addr) (next flight : Int) (w : World) (h : Has w b (s.cells mp) 47) (hm : 1 ≤ s.mss ∧ s.mss ≤ 65535) (hf : -9223372036854775808 ≤ flight ∧ flight ≤ 9223372036854775807) :
    Calls Try.prog 22 #[.pointer (some ⟨b, 0, none⟩), .int .u32 next, .int .i64 flight] w fun e w' => e = .returned (.tuple #[]) ∧ w' = ((w.setCell ⟨b, 2, none⟩ (.int .i64 (cap (mx (flight.tdiv 2) (2 * s.mss))))).setCell ⟨b, 6, none⟩ (.pointer (some ⟨w.heap.size, 0, none⟩))).alloc (.cells #[.int .u32 next] 23) := by
  have hb := h.lt
  have c0 : w.cell? ⟨b, 0, none⟩ = some (.int .i64 s.mss) := h.cell rfl
  have c2 : w.cell? ⟨b, 2, none⟩ = some (.int .i64 s.edge) := h.cell rfl
  have c6 : w.cell? ⟨b, 6, none⟩ = some (.pointer mp) := h.cell rfl
  have f2 := h.free 2
  have f6 := h.free 6
  have hw := half_wrap flight hf
  go_enter Try.func22, Try.ntmps22
  go_wp2
  all_goals (go_end0; exact ⟨rfl, by rw [set_eq (w := w) (b := b) (i := 2) (k := .i64) (y := cap (mx (flight.tdiv 2) (2 * s.mss))) (by unfold cap mn mx; (repeat' split) <;> omega)]⟩)

set_option maxHeartbeats 1000000 in
theorem window_c (s : St) (b : Nat) (mp : Option Addr) (w : World) (h : Has w b (s.cells mp) 47) :
    Calls Try.prog 18 #[.pointer (some ⟨b, 0, none⟩)] w fun e w' => e = .returned (.int .i64 s.window) ∧ w = w' := by
  have c1 : w.cell? ⟨b, 1, none⟩ = some (.int .i64 s.window) := h.cell rfl
  go_enter Try.func18, Try.ntmps18
  go_wp2
  go_ret
  exact ⟨rfl, rfl⟩
set_option maxHeartbeats 1000000 in
theorem edge_c (s : St) (b : Nat) (mp : Option Addr) (w : World) (h : Has w b (s.cells mp) 47) :
    Calls Try.prog 19 #[.pointer (some ⟨b, 0, none⟩)] w fun e w' => e = .returned (.int .i64 s.edge) ∧ w = w' := by
  have c1 : w.cell? ⟨b, 2, none⟩ = some (.int .i64 s.edge) := h.cell rfl
  go_enter Try.func19, Try.ntmps19
  go_wp2
  go_ret
  exact ⟨rfl, rfl⟩
set_option maxHeartbeats 1000000 in
theorem state_c (s : St) (b : Nat) (mp : Option Addr) (w : World) (h : Has w b (s.cells mp) 47) :
    Calls Try.prog 12 #[.pointer (some ⟨b, 0, none⟩)] w fun e w' => e = .returned (.int .u8 s.state) ∧ w = w' := by
  have c1 : w.cell? ⟨b, 3, none⟩ = some (.int .u8 s.state) := h.cell rfl
  go_enter Try.func12, Try.ntmps12
  go_wp2
  go_ret
  exact ⟨rfl, rfl⟩

def start (m : Int) : St := ⟨m, mn (4 * m) (mx 4380 (2 * m)), 1073741824, 0, 0, 0, none⟩
set_option maxHeartbeats 1000000 in
theorem new_no (m : Int) (w : World) (h : m < 1 ∨ 65535 < m) :
    Calls Try.prog 8 #[.int .i64 m] w fun e w' => e = .returned (.tuple #[.pointer none, .int .i64 2]) ∧ w = w' := by
  by_cases h1 : m < 1
  · go_enter Try.func8, Try.ntmps8
    go_wp2
    go_ret2
    exact ⟨rfl, rfl⟩
  · have h2 : 65535 < m := by omega
    go_enter Try.func8, Try.ntmps8
    go_wp2
    go_ret2
    exact ⟨rfl, rfl⟩
theorem new_eq {w : World} {m x y : Int} (h : x = y) : w.alloc (.cells #[.int .i64 m, .int .i64 x, .int .i64 1073741824, .int .u8 0, .int .i64 0, .int .i64 0, .pointer none] 47) = w.alloc (.cells #[.int .i64 m, .int .i64 y, .int .i64 1073741824, .int .u8 0, .int .i64 0, .int .i64 0, .pointer none] 47) := by rw [h]
set_option maxHeartbeats 1000000 in
theorem new_c (m : Int) (w : World) (h : 1 ≤ m ∧ m ≤ 65535) :
    Calls Try.prog 8 #[.int .i64 m] w fun e w' => e = .returned (.tuple #[.pointer (some ⟨w.heap.size, 0, none⟩), .int .i64 0]) ∧ w' = w.alloc (.cells ((start m).cells none).toArray 47) := by
  go_enter Try.func8, Try.ntmps8
  go_wp2
  all_goals (go_ret2; exact ⟨rfl, new_eq (by unfold start mn mx; dsimp only; (repeat' split) <;> omega)⟩)

/-- Is a behind b? -/
def less (a b : Int) : Bool := decide (0 < wrap32 ((b - a) % 4294967296))
theorem less_c (a b : Int) (w : World) :
    Calls Try.prog 28 #[.int .u32 a, .int .u32 b] w fun e w' => e = .returned (.bool (less a b)) ∧ w = w' := by
  go_enter Try.func28, Try.ntmps28
  go_wp2
  go_ret
  exact ⟨rfl, rfl⟩

def St.passed (s : St) (una : Int) : Bool := match s.mark with | none => true | some x => decide (una = x) || less x una
theorem beq_t {a b : Int} (h : a = b) : (a == b) = true := by rw [h]; exact beq_self_eq_true b
theorem beq_f {a b : Int} (h : a ≠ b) : (a == b) = false := beq_eq_false_iff_ne.2 h

set_option maxHeartbeats 1000000 in
theorem passed_none (s : St) (b : Nat) (una : Int) (w : World) (h : Has w b (s.cells none) 47) :
    Calls Try.prog 21 #[.pointer (some ⟨b, 0, none⟩), .int .u32 una] w fun e w' => e = .returned (.bool true) ∧ w = w' := by
  have c1 : w.cell? ⟨b, 6, none⟩ = some (.pointer none) := h.cell rfl
  go_enter Try.func21, Try.ntmps21
  go_wp2
  go_ret
  exact ⟨rfl, rfl⟩
set_option maxHeartbeats 1000000 in
theorem passed_some (s : St) (b k : Nat) (x una : Int) (w : World) (h : Has w b (s.cells (some ⟨k, 0, none⟩)) 47) (hk : Has w k [.int .u32 x] 23) :
    Calls Try.prog 21 #[.pointer (some ⟨b, 0, none⟩), .int .u32 una] w fun e w' => e = .returned (.bool (decide (una = x) || less x una)) ∧ w = w' := by
  have c1 : w.cell? ⟨b, 6, none⟩ = some (.pointer (some ⟨k, 0, none⟩)) := h.cell rfl
  have c2 : w.cell? ⟨k, 0, none⟩ = some (.int .u32 x) := hk.cell rfl
  by_cases c : una = x
  · have e := beq_t c
    rw [decide_eq_true c]
    clear c
    go_enter Try.func21, Try.ntmps21
    go_wp2
    go_ret
    exact ⟨rfl, rfl⟩
  · have e := beq_f c
    rw [decide_eq_false c]
    clear c
    go_enter Try.func21, Try.ntmps21
    go_wp2_with (refine (less_c _ _ _).mono ?_; rintro e w' ⟨rfl, rfl⟩)
    go_ret
    exact ⟨rfl, rfl⟩
theorem passed_c (s : St) (b : Nat) (una : Int) (w : World) (h : At w b s) :
    Calls Try.prog 21 #[.pointer (some ⟨b, 0, none⟩), .int .u32 una] w fun e w' => e = .returned (.bool (s.passed una)) ∧ w = w' := by
  obtain ⟨mp, h, ⟨hm, rfl⟩ | ⟨x, k, hm, rfl, _, hk⟩⟩ := h
  · have := passed_none s b una w h
    unfold St.passed; rw [hm]; exact this
  · have := passed_some s b k x una w h hk
    unfold St.passed; rw [hm]; exact this

theorem cast {w : World} {b : Nat} {c c' : List Value} {T : TypeId} (h : Has w b c T) (e : c = c') : Has w b c' T := e ▸ h
def St.grow (s : St) (v : Int) : St := if s.edge ≤ v then ⟨s.mss, v, s.edge, 1, s.twices, 0, s.mark⟩ else ⟨s.mss, v, s.edge, s.state, s.twices, s.counted, s.mark⟩
def St.slow (s : St) (n : Int) : St := s.grow (cap (s.window + mn n s.mss))

theorem drew_has {w : World} {b : Nat} {c : List Value} {T : TypeId} (h : Has w b c T) : Has w.drew b c T := h
set_option maxHeartbeats 2000000 in
theorem slow_c (s : St) (b : Nat) (mp : Option Addr) (u n : Int) (w : World) (h : Has w b (s.cells mp) 47) (hm : 1 ≤ s.mss ∧ s.mss ≤ 65535) (hn : 1 ≤ n ∧ n ≤ 9223372036854775807) (hw : 0 ≤ s.window ∧ s.window ≤ 1073741824) :
    Calls Try.prog 23 #[.pointer (some ⟨b, 0, none⟩), .int .u32 u, .int .i64 n] w fun e w' => e = .returned (.bool false) ∧ Has w' b ((s.slow n).cells mp) 47 ∧ Ch (· = b) w w' := by
  have H := Lib.hid h
  have c0 : w.cell? ⟨b, 0, none⟩ = some (.int .i64 s.mss) := h.cell rfl
  have c1 : w.cell? ⟨b, 1, none⟩ = some (.int .i64 s.window) := h.cell rfl
  have c2 : w.cell? ⟨b, 2, none⟩ = some (.int .i64 s.edge) := h.cell rfl
  have c3 : w.cell? ⟨b, 3, none⟩ = some (.int .u8 s.state) := h.cell rfl
  have c5 : w.cell? ⟨b, 5, none⟩ = some (.int .i64 s.counted) := h.cell rfl
  have f1 := h.free 1
  have f3 := h.free 3
  have f5 := h.free 5
  clear h
  by_cases cn : s.mss < n
  · have HS := Lib.hid (show s.grow (cap (s.window + s.mss)) = s.slow n by unfold St.slow mn; rw [if_pos cn])
    go_enter Try.func23, Try.ntmps23
    go_wp2
    go_still_tail 12, (by kernel_rfl)
    change wpList _ _ _ _ _ w.drew
    go_wp2_with fail
    refine (to_c b _ s.window _ (by go_simp) (by go_simp)).mono ?_
    rintro e w' ⟨rfl, rfl⟩
    generalize cap (s.window + s.mss) = v at *
    go_wp2
    go_quiet (fail)
    go_wp2
    · have hv : s.edge ≤ v := by assumption
      go_ret
      exact ⟨rfl, cast (by repeat (first | with_reducible exact H.out | with_reducible apply Has.set | with_reducible apply Has.drew | with_reducible apply Has.drewN)) (by rw [← HS.out, show s.grow v = _ from if_pos hv]; rfl), by repeat (first | with_reducible exact Ch.refl _ _ | with_reducible apply Ch.atb | with_reducible apply Ch.drew | with_reducible apply Ch.drewN)⟩
    · have hv : ¬ s.edge ≤ v := by first | assumption | omega
      go_ret
      exact ⟨rfl, cast (by repeat (first | with_reducible exact H.out | with_reducible apply Has.set | with_reducible apply Has.drew | with_reducible apply Has.drewN)) (by rw [← HS.out, show s.grow v = _ from if_neg hv]; rfl), by repeat (first | with_reducible exact Ch.refl _ _ | with_reducible apply Ch.atb | with_reducible apply Ch.drew | with_reducible apply Ch.drewN)⟩
  · have HS := Lib.hid (show s.grow (cap (s.window + n)) = s.slow n by unfold St.slow mn; rw [if_neg cn])
    go_enter Try.func23, Try.ntmps23
    go_wp2
    go_still_tail 12, (by kernel_rfl)
    change wpList _ _ _ _ _ w.drew
    go_wp2_with fail
    refine (to_c b _ s.window _ (by go_simp) (by go_simp)).mono ?_
    rintro e w' ⟨rfl, rfl⟩
    generalize cap (s.window + n) = v at *
    go_wp2
    go_quiet (fail)
    go_wp2
    · have hv : s.edge ≤ v := by assumption
      go_ret
      exact ⟨rfl, cast (by repeat (first | with_reducible exact H.out | with_reducible apply Has.set | with_reducible apply Has.drew | with_reducible apply Has.drewN)) (by rw [← HS.out, show s.grow v = _ from if_pos hv]; rfl), by repeat (first | with_reducible exact Ch.refl _ _ | with_reducible apply Ch.atb | with_reducible apply Ch.drew | with_reducible apply Ch.drewN)⟩
    · have hv : ¬ s.edge ≤ v := by first | assumption | omega
      go_ret
      exact ⟨rfl, cast (by repeat (first | with_reducible exact H.out | with_reducible apply Has.set | with_reducible apply Has.drew | with_reducible apply Has.drewN)) (by rw [← HS.out, show s.grow v = _ from if_neg hv]; rfl), by repeat (first | with_reducible exact Ch.refl _ _ | with_reducible apply Ch.atb | with_reducible apply Ch.drew | with_reducible apply Ch.drewN)⟩
end Go.Proofs.Ytbodppjponepgaa.Cg
