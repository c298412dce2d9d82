import Derived.Test.YtbpinkelcbcpjaaNm
import Derived.Handy
namespace Go.Proofs.Ytbpinkelcbcpjaa.Ni
open Go.RowKit Blk Go.Proofs.YtbpinkelcbcpjaaW.PrintWords
set_option linter.unusedVariables false

/-- A card of the law's own, all of which lies below top. -/
structure Own (w0 : World) (top b : Nat) (s : St) (w : World) : Prop where
  is : ∃ base L, w0.heap.size ≤ base ∧ At w base top b L s ∧ ∀ k, L.T.ownBlock = some k → k < top
  below : Below w0.heap.size w0 w
  bt : w0.heap.size ≤ top
def Up (top : Nat) (w w' : World) : Prop := Ch (fun k => k < top) w w'
section
variable {w0 w w' : World} {top b : Nat} {s s' : St}
theorem Own.tz (h : Own w0 top b s w) : top ≤ w.heap.size := by
  obtain ⟨base, L, _, hA, _⟩ := h.is
  exact hA.tz
theorem Own.keep (h : Own w0 top b s w) (hb : Below top w w') : Own w0 top b s w' := by
  obtain ⟨base, L, h1, hA, hT⟩ := h.is
  exact ⟨⟨base, L, h1, hA.move hb.size (fun k _ hk => hb.block k hk) fun k hk => hb.block k (hT k hk), hT⟩, h.below.trans (hb.mono h.bt), h.bt⟩
theorem Own.still (h : Own w0 top b s w) (hc : Ch nob w w') : Own w0 top b s w' := h.keep (hc.below top h.tz fun _ _ => id)
theorem Own.alloc (h : Own w0 top b s w) (o : Obj) : Own w0 top b s (w.alloc o) := h.still ((Ch.refl _ _).alloc o)
theorem fr_up {base : Nat} (h : Fr base top w w') : Up top w w' := h.mono fun _ _ hk => hk.2
theorem none_up (h : Ch nob w w') : Up top w w' := h.mono fun _ _ hk => hk.elim
theorem fr_below {base : Nat} (h : Fr base top w w') (hw : Below w0.heap.size w0 w) (hb : w0.heap.size ≤ base) : Below w0.heap.size w0 w' := by
  refine hw.trans ⟨h.os, h.tape, h.output, h.size, fun k hk => h.block k (Nat.lt_of_lt_of_le hk hw.size) ?_⟩
  rintro ⟨x, _⟩
  omega
theorem Up.q {base n size : Nat} {e : TypeId} {v : Value} {xs : List Value} (h : Up top w w') (hb : top ≤ base) (hq : QRow w base e size v n xs) : QRow w' base e size v n xs :=
  q_move hq fun k hk => h.block k (q_lt hq k hk) fun hk' => by have := (q_typed hq k hk).1; omega
theorem Up.trans {w1 : World} (h : Up top w w1) (k : Up top w1 w') : Up top w w' := Ch.trans h k
theorem slot_c (h : Int) (t : ByteArray) (w : World) : Calls Try.prog 19 #[.int .u32 h, .string t] w fun e w' => e = .returned (.agg #[.int .u32 h, .string t]) ∧ Ch nob w w' := by
  have HC := Lib.hid (Ch.refl nob w)
  go_enter Try.func19, Try.ntmps19
  go_wp2
  go_returns
  all_goals skip
  exact ⟨rfl, (HC.out.alloc _)⟩
theorem new_o (w0 w : World) (hB : Below w0.heap.size w0 w) (n size : Nat) (h1 : 1 ≤ n ∧ n ≤ 8) (h2 : 1 ≤ size ∧ size ≤ 256) :
    Calls Try.prog 10 #[.int .i64 n, .int .i64 size] w fun e w' => ∃ b, e = .returned (.tuple #[.pointer (some ⟨b, 0, none⟩), .int .i64 0]) ∧ Own w0 w'.heap.size b (fresh n size) w' ∧ Below w.heap.size w w' := by
  refine (new_c n size w h1 h2).mono ?_
  rintro e w' ⟨b, rfl, ⟨L, hA⟩, hb⟩
  exact ⟨b, rfl, ⟨⟨_, L, hB.size, hA, fun k hk => q_lt hA.ht k hk⟩, hB.trans (hb.mono hB.size), Nat.le_trans hB.size hb.size⟩, hb⟩
theorem came_o (h : Own w0 top b s w) (x : Sl) (hh : 0 ≤ x.1 ∧ x.1 ≤ 4294967295) :
    Calls Try.prog 18 #[.pointer (some ⟨b, 0, none⟩), .agg #[.int .u32 x.1, .string x.2]] w fun e w' => e = .returned (.tuple #[.int .i64 (s.pick x.1), .int .i64 (s.come x).2]) ∧ Own w0 top b (s.come x).1 w' ∧ Up top w w' := by
  obtain ⟨base, L, h1, hA, hT⟩ := h.is
  refine (came_c hA x hh).mono ?_
  rintro e w' ⟨rfl, hA', hF⟩
  exact ⟨rfl, ⟨⟨base, L, h1, hA', hT⟩, fr_below hF h.below h1, h.bt⟩, fr_up hF⟩
theorem poll_o (h : Own w0 top b s w) (x n : Int) :
    Calls Try.prog 20 #[.pointer (some ⟨b, 0, none⟩), .int .i64 x, .int .i64 n] w fun e w' => (∃ A k, k = (s.poll x n).2.1.length ∧ e = .returned (.tuple #[.slice A k k, .int .i64 (s.poll x n).2.2]) ∧ QRow w' w.heap.size 53 2 (.slice A k k) k (flat (s.poll x n).2.1)) ∧ Own w0 top b (s.poll x n).1 w' ∧ Up top w w' := by
  obtain ⟨base, L, h1, hA, hT⟩ := h.is
  refine (poll_c hA x n).mono ?_
  rintro e w' ⟨hE, hA', hF⟩
  exact ⟨hE, ⟨⟨base, L, h1, hA', hT⟩, fr_below hF h.below h1, h.bt⟩, fr_up hF⟩
theorem send_o (h : Own w0 top b s w) (x : Int) (t : ByteArray) :
    Calls Try.prog 22 #[.pointer (some ⟨b, 0, none⟩), .int .i64 x, .string t] w fun e w' => e = .returned (.int .i64 (s.send x t).2) ∧ Own w0 top b (s.send x t).1 w' ∧ Up top w w' := by
  obtain ⟨base, L, h1, hA, hT⟩ := h.is
  refine (send_c hA x t).mono ?_
  rintro e w' ⟨hE, hA', hF⟩
  exact ⟨hE, ⟨⟨base, L, h1, hA', hT⟩, fr_below hF h.below h1, h.bt⟩, fr_up hF⟩
theorem gone_o (h : Own w0 top b s w) (x n : Int) :
    Calls Try.prog 23 #[.pointer (some ⟨b, 0, none⟩), .int .i64 x, .int .i64 n] w fun e w' => (∃ A k, k = (s.gone x n).2.length ∧ e = .returned (.slice A k k) ∧ QRow w' w.heap.size 9 1 (.slice A k k) k (strs (s.gone x n).2)) ∧ Own w0 top b (s.gone x n).1 w' ∧ Up top w w' := by
  obtain ⟨base, L, h1, hA, hT⟩ := h.is
  refine (cgone_c hA x n).mono ?_
  rintro e w' ⟨hE, hA', hF⟩
  exact ⟨hE, ⟨⟨base, L, h1, hA', hT⟩, fr_below hF h.below h1, h.bt⟩, fr_up hF⟩
theorem raised_o (h : Own w0 top b s w) : Calls Try.prog 13 #[.pointer (some ⟨b, 0, none⟩)] w fun e w' => (∃ A c, e = .returned (.slice A s.raised.length c) ∧ QRow w' w.heap.size 3 1 (.slice A s.raised.length c) s.raised.length (s.raised.map (Value.int .i64))) ∧ Own w0 top b s w' ∧ Up top w w' := by
  obtain ⟨base, L, h1, hA, hT⟩ := h.is
  refine (raised_c hA).mono ?_
  rintro e w' ⟨hE, hC⟩
  exact ⟨hE, h.still hC, none_up hC⟩
theorem waits_o (h : Own w0 top b s w) (x : Int) : Calls Try.prog 15 #[.pointer (some ⟨b, 0, none⟩), .int .i64 x] w fun e w' => e = .returned (.int .i64 (s.waits x)) ∧ w = w' := by
  obtain ⟨base, L, h1, hA, hT⟩ := h.is
  exact waits_c hA x
theorem sends_o (h : Own w0 top b s w) (x : Int) : Calls Try.prog 16 #[.pointer (some ⟨b, 0, none⟩), .int .i64 x] w fun e w' => e = .returned (.int .i64 (s.sends x)) ∧ w = w' := by
  obtain ⟨base, L, h1, hA, hT⟩ := h.is
  exact sends_c hA x
theorem dropped_o (h : Own w0 top b s w) : Calls Try.prog 17 #[.pointer (some ⟨b, 0, none⟩)] w fun e w' => e = .returned (.tuple #[.int .u64 s.came, .int .u64 s.sent]) ∧ Own w0 top b s w' ∧ Up top w w' := by
  obtain ⟨base, L, h1, hA, hT⟩ := h.is
  refine (dropped_c hA).mono ?_
  rintro e w' ⟨hE, hC⟩
  exact ⟨hE, h.still hC, none_up hC⟩
end
/-- The document's example, step by step. -/
def xa : Sl := (1, ⟨#[97]⟩)
def xb : Sl := (2, ⟨#[98]⟩)
def xc : Sl := (3, ⟨#[99]⟩)
def xd : Sl := (4, ⟨#[100]⟩)
def s0 : St := fresh 1 2
def s1 : St := (s0.come xa).1
def s2 : St := (s1.come xb).1
def s3 : St := (s2.come xc).1
def s4 : St := (s3.poll 0 1).1
def s5 : St := (s4.poll 0 2).1
def s6 : St := (s5.come xd).1
theorem ex3 : (s2.come xc).2 = 6 := by rfl
theorem ex4 : (s3.poll 0 1).2.1 = [xa] := by rfl
theorem ex4' : (s3.poll 0 1).2.2 = 0 := by rfl
theorem ex5 : s4.raised = [] := by rfl
theorem ex6 : (s4.poll 0 2).2.1.length = 1 := by rfl
theorem ex6' : (s4.poll 0 2).2.2 = 0 := by rfl
theorem ex7 : s6.came = 1 := by rfl
theorem ex8 : s6.raised.length = 1 := by rfl
end Go.Proofs.Ytbpinkelcbcpjaa.Ni
