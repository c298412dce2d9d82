import Derived.Test.YtfdbmpohegdpjaaProg
import Derived.Test.YtfdbmpohegdpjaaObj
import Derived.FnLit
import Derived.Outline
import Derived.Lib.Hide
import Derived.Tactics
import Derived.RegionTactic
import Derived.BigRegion
import Derived.LoopTactic
import Derived.OwnWalk
import Derived.Deep.QuietTactic
import Derived.BigQuiet
import Derived.WideLaws
import Derived.Laws.IdiomCopy
namespace Go.Proofs.Ytfdbmpohegdpjaa.Rto
open Go.RowKit Blk
set_option linter.unusedVariables false

structure St where
  m : Int
  o : Int
  has : Bool
  bk : Int
deriving DecidableEq

def St.cells (s : St) : List Value := [.int .i64 s.m, .int .i64 s.o, .bool s.has, .int .i64 s.bk]
def St.zero : St := ⟨0, 0, false, 0⟩

set_option maxHeartbeats 1000000 in
theorem new_c (w : World) : Calls Try.prog 8 #[] w fun e w' => e = .returned (.pointer (some ⟨w.heap.size, 0, none⟩)) ∧ w' = w.alloc (.cells St.zero.cells.toArray 39) := by
  go_enter Try.func8, Try.ntmps8
  go_wp2
  go_ret
  exact ⟨rfl, rfl⟩

set_option maxHeartbeats 1000000 in
theorem late_c (s : St) (b : Nat) (w : World) (h : Has w b s.cells 39) (hb : 0 ≤ s.bk ∧ s.bk ≤ 1000000) :
    Calls Try.prog 9 #[.pointer (some ⟨b, 0, none⟩)] w fun e w' => e = .returned (.tuple #[]) ∧ w' = w.setCell ⟨b, 3, none⟩ (.int .i64 (s.bk + 1)) := by
  have c3 : w.cell? ⟨b, 3, none⟩ = some (.int .i64 s.bk) := h.cell rfl
  have f3 := h.free 3
  go_enter Try.func9, Try.ntmps9
  go_wp2
  go_end0
  exact ⟨rfl, rfl⟩

set_option maxHeartbeats 1000000 in
theorem backs_c (s : St) (b : Nat) (w : World) (h : Has w b s.cells 39) :
    Calls Try.prog 16 #[.pointer (some ⟨b, 0, none⟩)] w fun e w' => e = .returned (.int .i64 s.bk) ∧ w = w' := by
  have c3 : w.cell? ⟨b, 3, none⟩ = some (.int .i64 s.bk) := h.cell rfl
  go_enter Try.func16, Try.ntmps16
  go_wp2
  go_ret
  exact ⟨rfl, rfl⟩

set_option maxHeartbeats 1000000 in
theorem smooth_c (s : St) (b : Nat) (w : World) (h : Has w b s.cells 39) (hm : 0 ≤ s.m ∧ s.m ≤ 8796093022208) (ho : 0 ≤ s.o ∧ s.o ≤ 4398046511108) :
    Calls Try.prog 13 #[.pointer (some ⟨b, 0, none⟩)] w fun e w' => e = .returned (.tuple #[.int .i64 (s.m / 8), .int .i64 (s.o / 4)]) ∧ ∃ n, w' = w.drewN n := by
  have c0 : w.cell? ⟨b, 0, none⟩ = some (.int .i64 s.m) := h.cell rfl
  have c1 : w.cell? ⟨b, 1, none⟩ = some (.int .i64 s.o) := h.cell rfl
  go_enter Try.func13, Try.ntmps13
  go_wp2
  go_quiet (fail)
  go_wp2
  go_ret2
  exact ⟨rfl, _, rfl⟩

set_option maxHeartbeats 1000000 in
theorem measure_neg (s : St) (b : Nat) (t : Int) (w : World) (ht : t < 0) :
    Calls Try.prog 11 #[.pointer (some ⟨b, 0, none⟩), .int .i64 t] w fun e w' => e = .returned (.tuple #[]) ∧ w = w' := by
  go_enter Try.func11, Try.ntmps11
  go_wp2
  exact bodyPost_ret (v := .tuple #[]) (by simp [results, Try.results11, go_sem]) rfl ⟨rfl, rfl⟩

set_option maxHeartbeats 1000000 in
theorem measure_first (s : St) (b : Nat) (t : Int) (w : World) (h : Has w b s.cells 39) (ht : 0 ≤ t ∧ t ≤ 1099511627776) (hh : s.has = false) :
    Calls Try.prog 11 #[.pointer (some ⟨b, 0, none⟩), .int .i64 t] w fun e w' => e = .returned (.tuple #[]) ∧ w' = (((w.setCell ⟨b, 3, none⟩ (.int .i64 0)).setCell ⟨b, 0, none⟩ (.int .i64 (8 * t))).setCell ⟨b, 1, none⟩ (.int .i64 (2 * t))).setCell ⟨b, 2, none⟩ (.bool true) := by
  have c0 : w.cell? ⟨b, 0, none⟩ = some (.int .i64 s.m) := h.cell rfl
  have c1 : w.cell? ⟨b, 1, none⟩ = some (.int .i64 s.o) := h.cell rfl
  have c2 : w.cell? ⟨b, 2, none⟩ = some (.bool false) := h.cell (by rw [← hh]; rfl)
  have c3 : w.cell? ⟨b, 3, none⟩ = some (.int .i64 s.bk) := h.cell rfl
  have f0 := h.free 0
  have f1 := h.free 1
  have f2 := h.free 2
  have f3 := h.free 3
  clear hh
  go_enter Try.func11, Try.ntmps11
  go_wp2
  exact bodyPost_ret (v := .tuple #[]) (by simp [results, Try.results11, go_sem]) rfl ⟨rfl, rfl⟩


set_option maxHeartbeats 2000000 in
theorem measure_first_big (s : St) (b : Nat) (t : Int) (w : World) (h : Has w b s.cells 39) (ht : 1099511627776 < t) (hh : s.has = false) :
    Calls Try.prog 11 #[.pointer (some ⟨b, 0, none⟩), .int .i64 t] w fun e w' => e = .returned (.tuple #[]) ∧ w' = (((w.setCell ⟨b, 3, none⟩ (.int .i64 0)).setCell ⟨b, 0, none⟩ (.int .i64 (8 * 1099511627776))).setCell ⟨b, 1, none⟩ (.int .i64 (2 * 1099511627776))).setCell ⟨b, 2, none⟩ (.bool true) := by
  have c0 : w.cell? ⟨b, 0, none⟩ = some (.int .i64 s.m) := h.cell rfl
  have c1 : w.cell? ⟨b, 1, none⟩ = some (.int .i64 s.o) := h.cell rfl
  have c2 : w.cell? ⟨b, 2, none⟩ = some (.bool false) := h.cell (by rw [← hh]; rfl)
  have c3 : w.cell? ⟨b, 3, none⟩ = some (.int .i64 s.bk) := h.cell rfl
  have f0 := h.free 0
  have f1 := h.free 1
  have f2 := h.free 2
  have f3 := h.free 3
  clear hh
  go_enter Try.func11, Try.ntmps11
  go_wp2
  exact bodyPost_ret (v := .tuple #[]) (by simp [results, Try.results11, go_sem]) rfl ⟨rfl, rfl⟩

def off (s : St) (t : Int) : Int := s.o + ((if s.m / 8 - t < t - s.m / 8 then t - s.m / 8 else s.m / 8 - t) - s.o / 4)

set_option maxHeartbeats 2000000 in
theorem measure_next (s : St) (b : Nat) (t : Int) (w : World) (h : Has w b s.cells 39) (ht : 0 ≤ t ∧ t ≤ 1099511627776) (hh : s.has = true) (hm : 0 ≤ s.m ∧ s.m ≤ 8796093022208) (ho : 0 ≤ s.o ∧ s.o ≤ 4398046511108) :
    Calls Try.prog 11 #[.pointer (some ⟨b, 0, none⟩), .int .i64 t] w fun e w' => e = .returned (.tuple #[]) ∧ Same (((w.setCell ⟨b, 3, none⟩ (.int .i64 0)).setCell ⟨b, 1, none⟩ (.int .i64 (off s t))).setCell ⟨b, 0, none⟩ (.int .i64 (s.m + (t - s.m / 8)))) w' := by
  have c0 : w.cell? ⟨b, 0, none⟩ = some (.int .i64 s.m) := h.cell rfl
  have c1 : w.cell? ⟨b, 1, none⟩ = some (.int .i64 s.o) := h.cell rfl
  have c2 : w.cell? ⟨b, 2, none⟩ = some (.bool true) := h.cell (by rw [← hh]; rfl)
  have c3 : w.cell? ⟨b, 3, none⟩ = some (.int .i64 s.bk) := h.cell rfl
  have f0 := h.free 0
  have f1 := h.free 1
  have f2 := h.free 2
  have f3 := h.free 3
  clear hh
  go_enter Try.func11, Try.ntmps11
  go_wp2
  go_region
  all_goals go_wp2
  all_goals (go_end0; exact ⟨rfl, ⟨by unfold off; (first | rw [if_pos (by omega)] | rw [if_neg (by omega)]); rfl, rfl, rfl, rfl⟩⟩)


set_option maxHeartbeats 2000000 in
theorem measure_next_big (s : St) (b : Nat) (t : Int) (w : World) (h : Has w b s.cells 39) (ht : 1099511627776 < t) (hh : s.has = true) (hm : 0 ≤ s.m ∧ s.m ≤ 8796093022208) (ho : 0 ≤ s.o ∧ s.o ≤ 4398046511108) :
    Calls Try.prog 11 #[.pointer (some ⟨b, 0, none⟩), .int .i64 t] w fun e w' => e = .returned (.tuple #[]) ∧ Same (((w.setCell ⟨b, 3, none⟩ (.int .i64 0)).setCell ⟨b, 1, none⟩ (.int .i64 (off s 1099511627776))).setCell ⟨b, 0, none⟩ (.int .i64 (s.m + (1099511627776 - s.m / 8)))) w' := by
  have c0 : w.cell? ⟨b, 0, none⟩ = some (.int .i64 s.m) := h.cell rfl
  have c1 : w.cell? ⟨b, 1, none⟩ = some (.int .i64 s.o) := h.cell rfl
  have c2 : w.cell? ⟨b, 2, none⟩ = some (.bool true) := h.cell (by rw [← hh]; rfl)
  have c3 : w.cell? ⟨b, 3, none⟩ = some (.int .i64 s.bk) := h.cell rfl
  have f0 := h.free 0
  have f1 := h.free 1
  have f2 := h.free 2
  have f3 := h.free 3
  clear hh
  go_enter Try.func11, Try.ntmps11
  go_wp2
  go_region
  all_goals go_wp2
  all_goals (go_end0; exact ⟨rfl, ⟨by unfold off; (first | rw [if_pos (by omega)] | rw [if_neg (by omega)]); rfl, rfl, rfl, rfl⟩⟩)

/-- So often doubled, as long as it is below the greatest time. -/
def ag : Nat → Int → Int
  | 0, x => x
  | n + 1, x => if x < 60000 then ag n (2 * x) else x

theorem below_c (x : Int) (w : World) : Calls Try.prog 17 #[.int .i64 x] w fun e w' => e = .returned (.bool (decide (x < 60000))) ∧ w = w' := by
  go_enter Try.func17, Try.ntmps17
  go_wp2
  go_ret
  exact ⟨rfl, rfl⟩
theorem twice_c (x : Int) (w : World) (hx : 0 ≤ x ∧ x ≤ 1000000000000000) : Calls Try.prog 19 #[.int .i64 x] w fun e w' => e = .returned (.int .i64 (2 * x)) ∧ w = w' := by
  go_enter Try.func19, Try.ntmps19
  go_wp2
  go_ret
  exact ⟨rfl, rfl⟩

set_option maxHeartbeats 2000000 in
theorem again_c (x : Int) (n : Nat) (w : World) (hx : 0 ≤ x ∧ x ≤ 1000000000000000) (hn : n ≤ 1000000) :
    Calls Try.prog 18 #[.int .i64 x, .int .i64 n, .func (.func 17) #[] #[], .func (.func 19) #[] #[]] w fun e w' => e = .returned (.int .i64 (ag n x)) ∧ w = w' := by
  go_enter Try.func18, Try.ntmps18
  go_wp2
  go_loop [0, 1] (fun vx vn => ∃ (y : Int) (m : Nat), vx = .int .i64 y ∧ vn = .int .i64 m ∧ 0 ≤ y ∧ y ≤ 1000000000000000 ∧ m ≤ n ∧ Hid (ag m y = ag n x)) (fun _ vn => (intOf vn).toNat)
  case atStart => exact ⟨x, n, rfl, rfl, hx.1, hx.2, Nat.le_refl _, Lib.hid rfl⟩
  case round =>
    obtain ⟨y, m, rfl, rfl, h0, h1, hm, he⟩ := hrel
    by_cases c0 : m = 0
    · subst c0
      go_wp2
      go_ret
      exact ⟨by rw [← he.out]; rfl, rfl⟩
    · obtain ⟨m, rfl⟩ : ∃ k, m = k + 1 := ⟨m - 1, by omega⟩
      by_cases c1 : y < 60000
      · have e1 : ag (m + 1) y = ag m (2 * y) := by simp [ag, c1]
        have he2 := Lib.hid (e1.symm.trans he.out)
        clear e1 he c0
        go_wp2_with (first | (go_at_call 17; refine (below_c y _).mono ?_; rintro e w' ⟨rfl, rfl⟩) | (go_at_call 19; refine (twice_c y _ (by omega)).mono ?_; rintro e w' ⟨rfl, rfl⟩))
        go_round
        case rel => exact ⟨2 * y, m, rfl, by go_num, by omega, by omega, by omega, he2⟩
        case measure => simp [intOf]
      · have e1 : ag (m + 1) y = y := by simp [ag, c1]
        have he2 := Lib.hid (e1.symm.trans he.out)
        clear e1 he c0
        go_wp2_with (first | (go_at_call 17; refine (below_c y _).mono ?_; rintro e w' ⟨rfl, rfl⟩) | (go_at_call 19; refine (twice_c y _ (by omega)).mono ?_; rintro e w' ⟨rfl, rfl⟩))
        go_ret
        exact ⟨by rw [he2.out]; rfl, rfl⟩

def St.base (s : St) : Int := if s.has then s.m / 8 + (if s.o < 1 then 1 else s.o) else 1000
def St.time (s : St) : Int := let x := ag s.bk.toNat (if s.base < 200 then 200 else s.base); if 60000 < x then 60000 else x

theorem ag_bd (n : Nat) : ∀ x, 0 ≤ x → x ≤ 1000000000000000 → 0 ≤ ag n x ∧ ag n x ≤ 1000000000000000 := by
  induction n with
  | zero => intro x h0 h1; exact ⟨h0, h1⟩
  | succ n ih =>
    intro x h0 h1
    unfold ag
    split
    · exact ih _ (by omega) (by omega)
    · exact ⟨h0, h1⟩

set_option maxHeartbeats 4000000 in
theorem time_has (s : St) (b : Nat) (w : World) (h : Has w b s.cells 39) (hh : s.has = true) (hm : 0 ≤ s.m ∧ s.m ≤ 8796093022208) (ho : 0 ≤ s.o ∧ s.o ≤ 4398046511108) (hb : 0 ≤ s.bk ∧ s.bk ≤ 1000000) :
    Calls Try.prog 14 #[.pointer (some ⟨b, 0, none⟩)] w fun e w' => e = .returned (.int .i64 s.time) ∧ ∃ n, w' = w.drewN n := by
  have c0 : w.cell? ⟨b, 0, none⟩ = some (.int .i64 s.m) := h.cell rfl
  have c1 : w.cell? ⟨b, 1, none⟩ = some (.int .i64 s.o) := h.cell rfl
  have c2 : w.cell? ⟨b, 2, none⟩ = some (.bool true) := h.cell (by rw [← hh]; rfl)
  obtain ⟨n, hn⟩ := Int.eq_ofNat_of_zero_le hb.1
  have c3 : w.cell? ⟨b, 3, none⟩ = some (.int .i64 n) := h.cell (by rw [← hn]; rfl)
  have hn2 : n ≤ 1000000 := by omega
  have hbs : s.base = s.m / 8 + (if s.o < 1 then 1 else s.o) := by unfold St.base; rw [hh]; rfl
  by_cases co : s.o < 1 <;> by_cases cb : s.m / 8 + (if s.o < 1 then 1 else s.o) < 200
  · have ht : s.time = if 60000 < ag n (200) then 60000 else ag n (200) := by
      unfold St.time; simp only [hn, Int.toNat_natCast]
      have e : (if s.base < 200 then 200 else s.base) = 200 := by rw [hbs]; rw [if_pos cb]
      rw [e]
    have HT := Lib.hid ht
    clear ht hbs hh hn hb h
    go_enter Try.func14, Try.ntmps14
    go_wp2
    go_region
    go_wp2_with fail
    refine (again_c (200) n _ (by omega) hn2).mono ?_
    rintro e w' ⟨rfl, rfl⟩
    have hag := ag_bd n (200) (by omega) (by omega)
    generalize ag n (200) = X at *
    by_cases cX : 60000 < X
    · rw [if_pos cX] at HT
      go_wp2
      go_ret
      exact ⟨by rw [HT.out]; rfl, 1, rfl⟩
    · rw [if_neg cX] at HT
      go_wp2
      go_ret
      exact ⟨by rw [HT.out]; rfl, 1, rfl⟩
  · have ht : s.time = if 60000 < ag n (s.m / 8 + 1) then 60000 else ag n (s.m / 8 + 1) := by
      unfold St.time; simp only [hn, Int.toNat_natCast]
      have e : (if s.base < 200 then 200 else s.base) = s.m / 8 + 1 := by rw [hbs]; rw [if_neg cb, if_pos co]
      rw [e]
    have HT := Lib.hid ht
    clear ht hbs hh hn hb h
    go_enter Try.func14, Try.ntmps14
    go_wp2
    go_region
    go_wp2_with fail
    refine (again_c (s.m / 8 + 1) n _ (by omega) hn2).mono ?_
    rintro e w' ⟨rfl, rfl⟩
    have hag := ag_bd n (s.m / 8 + 1) (by omega) (by omega)
    generalize ag n (s.m / 8 + 1) = X at *
    by_cases cX : 60000 < X
    · rw [if_pos cX] at HT
      go_wp2
      go_ret
      exact ⟨by rw [HT.out]; rfl, 1, rfl⟩
    · rw [if_neg cX] at HT
      go_wp2
      go_ret
      exact ⟨by rw [HT.out]; rfl, 1, rfl⟩
  · have ht : s.time = if 60000 < ag n (200) then 60000 else ag n (200) := by
      unfold St.time; simp only [hn, Int.toNat_natCast]
      have e : (if s.base < 200 then 200 else s.base) = 200 := by rw [hbs]; rw [if_pos cb]
      rw [e]
    have HT := Lib.hid ht
    clear ht hbs hh hn hb h
    go_enter Try.func14, Try.ntmps14
    go_wp2
    go_region
    go_wp2_with fail
    refine (again_c (200) n _ (by omega) hn2).mono ?_
    rintro e w' ⟨rfl, rfl⟩
    have hag := ag_bd n (200) (by omega) (by omega)
    generalize ag n (200) = X at *
    by_cases cX : 60000 < X
    · rw [if_pos cX] at HT
      go_wp2
      go_ret
      exact ⟨by rw [HT.out]; rfl, 1, rfl⟩
    · rw [if_neg cX] at HT
      go_wp2
      go_ret
      exact ⟨by rw [HT.out]; rfl, 1, rfl⟩
  · have ht : s.time = if 60000 < ag n (s.m / 8 + s.o) then 60000 else ag n (s.m / 8 + s.o) := by
      unfold St.time; simp only [hn, Int.toNat_natCast]
      have e : (if s.base < 200 then 200 else s.base) = s.m / 8 + s.o := by rw [hbs]; rw [if_neg cb, if_neg co]
      rw [e]
    have HT := Lib.hid ht
    clear ht hbs hh hn hb h
    go_enter Try.func14, Try.ntmps14
    go_wp2
    go_region
    go_wp2_with fail
    refine (again_c (s.m / 8 + s.o) n _ (by omega) hn2).mono ?_
    rintro e w' ⟨rfl, rfl⟩
    have hag := ag_bd n (s.m / 8 + s.o) (by omega) (by omega)
    generalize ag n (s.m / 8 + s.o) = X at *
    by_cases cX : 60000 < X
    · rw [if_pos cX] at HT
      go_wp2
      go_ret
      exact ⟨by rw [HT.out]; rfl, 1, rfl⟩
    · rw [if_neg cX] at HT
      go_wp2
      go_ret
      exact ⟨by rw [HT.out]; rfl, 1, rfl⟩

set_option maxHeartbeats 4000000 in
theorem time_none (s : St) (b : Nat) (w : World) (h : Has w b s.cells 39) (hh : s.has = false) (hb : 0 ≤ s.bk ∧ s.bk ≤ 1000000) :
    Calls Try.prog 14 #[.pointer (some ⟨b, 0, none⟩)] w fun e w' => e = .returned (.int .i64 s.time) ∧ ∃ n, w' = w.drewN n := by
  have c2 : w.cell? ⟨b, 2, none⟩ = some (.bool false) := h.cell (by rw [← hh]; rfl)
  obtain ⟨n, hn⟩ := Int.eq_ofNat_of_zero_le hb.1
  have c3 : w.cell? ⟨b, 3, none⟩ = some (.int .i64 n) := h.cell (by rw [← hn]; rfl)
  have hn2 : n ≤ 1000000 := by omega
  have ht : s.time = if 60000 < ag n 1000 then 60000 else ag n 1000 := by
    unfold St.time St.base; rw [hn, hh]; rfl
  have HT := Lib.hid ht
  clear ht hh hn hb h
  go_enter Try.func14, Try.ntmps14
  go_wp2_with fail
  refine (again_c 1000 n _ (by omega) hn2).mono ?_
  rintro e w' ⟨rfl, rfl⟩
  have hag := ag_bd n 1000 (by omega) (by omega)
  generalize ag n 1000 = X at *
  by_cases cX : 60000 < X
  · rw [if_pos cX] at HT
    go_wp2
    go_ret
    exact ⟨by rw [HT.out]; rfl, 0, rfl⟩
  · rw [if_neg cX] at HT
    go_wp2
    go_ret
    exact ⟨by rw [HT.out]; rfl, 0, rfl⟩
end Go.Proofs.Ytfdbmpohegdpjaa.Rto
