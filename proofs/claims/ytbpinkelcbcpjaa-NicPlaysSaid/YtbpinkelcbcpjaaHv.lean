import Derived.Test.YtbpinkelcbcpjaaNp
import Derived.Test.YtbpinkelcbcpjaaRo
namespace Go.Proofs.Ytbpinkelcbcpjaa.Ni
open Go.RowKit Blk Go.Proofs.YtbpinkelcbcpjaaW.PrintWords
set_option linter.unusedVariables false
def Light (len : Nat) (z : Nat → Op.Stp) (t : Bool) : Prop := t = false → len ≤ 300
def HeavyPost (len : Nat) (z : Nat → Op.Stp) (w : World) (e : Ending) (w' : World) : Prop := ∃ t, e = .returned (.bool t) ∧ w = w' ∧ Light len z t
theorem heavy_post {len : Nat} {z : Nat → Op.Stp} {w w' : World} {e : Ending} (t : Bool) (h1 : e = .returned (.bool t)) (h2 : w = w') (h3 : Light len z t) : HeavyPost len z w e w' := ⟨t, h1, h2, h3⟩
set_option maxHeartbeats 4000000 in
set_option maxRecDepth 100000 in
theorem heavy_c (a : Option Addr) (len cap : Nat) (z : Nat → Op.Stp) (w : World) (hs : Op.Script w a len z) (hl : len ≤ 9223372036854775807) :
    Calls Try.prog 8 #[.slice a len cap] w (HeavyPost len z w) := by
  have HS := Lib.hid hs
  clear hs
  go_enter Try.func8, Try.ntmps8
  go_wp2
  go_loopg [3, 4] (min len 500) (fun g vn vi wr => ∃ (i : Nat) (n : Int), i + g = min len 500 ∧ vi = .int .i64 i ∧ vn = .int .i64 n ∧ 0 ≤ n ∧ n ≤ i * 140737488355328 ∧ w = wr)
  case atStart => exact ⟨0, 0, by omega, rfl, rfl, by omega, by omega, rfl⟩
  case round =>
    obtain ⟨i, n, hig, rfl, rfl, hn0, hn1, rfl⟩ := hrel
    by_cases hi : i < min len 500
    · obtain ⟨b, off, ea, hcell⟩ := HS.out.resolve_left (by omega)
      subst ea
      obtain ⟨hok, _, _, q4, _⟩ := hcell i (by omega)
      have hol := hok.len
      clear hok hcell
      generalize (z i).s = m at *
      have hi1 : i < len := by omega
      have hi2 : i < 500 := by omega
      go_wp2
      go_roundg (min len 500 - (i + 1))
      case measure => omega
      case rel => exact ⟨i + 1, n + (m.size : Int), by omega, by go_num, rfl, by omega, by omega, rfl⟩
    · have hend : (len : Int) ≤ i ∨ (500 : Int) ≤ i := by omega
      have hi5 : i ≤ 500 := by omega
      by_cases h3 : (300 : Int) < len
      · have d3 : decide ((300 : Int) < len) = true := decide_eq_true h3
        by_cases hil : i < len
        · go_wp2
          go_ret
          exact heavy_post _ rfl rfl (fun h => by cases h)
        · go_wp2
          go_ret
          exact heavy_post _ rfl rfl (fun h => by cases h)
      · have hil : ¬ i < len := by omega
        have hmin : len ≤ i := by omega
        by_cases h4 : (8192 : Int) < n
        · go_wp2
          go_ret
          exact heavy_post _ rfl rfl (fun h => by simp at h)
        · go_wp2
          go_ret
          exact heavy_post _ rfl rfl (fun _ => by omega)
end Go.Proofs.Ytbpinkelcbcpjaa.Ni
