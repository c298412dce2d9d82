import Derived.Test.YtbpinkelcbcpjaaNc
import Derived.Lib.SliceRun
namespace Go.Proofs.Ytbpinkelcbcpjaa.Ni
open Go.RowKit Blk Go.Proofs.YtbpinkelcbcpjaaW.PrintWords
set_option linter.unusedVariables false

theorem q_at {w : World} {base n size c : Nat} {e : TypeId} {A : Option Addr} {xs : List Value} (h : QRow w base e size (.slice A n c) n xs) (hn : 0 < n) :
    ∃ g o, A = some ⟨g, o, none⟩ ∧ base ≤ g ∧ ∀ j u, xs[j]? = some u → w.cell? ⟨g, o + j, none⟩ = some u ∧ w.frozen? ⟨g, o + j, none⟩ = false := by
  have hcs := q_cells h hn
  rcases h.2 with ⟨h0, _⟩ | ⟨g, off, cap, cur, he, hg, hh, _⟩
  · omega
  · injection he with ha _ hc
    subst ha
    obtain ⟨ad, hA, hcell⟩ := hcs
    injection hA with hA
    subst hA
    refine ⟨g, _, rfl, hg, fun j u hu => ⟨?_, ?_⟩⟩
    · have := hcell j u hu
      rwa [add_at] at this
    · unfold World.frozen?
      rw [hh]
      simp
/-- The card. -/
structure St where
  size : Nat
  qs : List Qu
  tab : List Int
  came : Int
  sent : Int
/-- Where its parts lie. -/
structure Lay where
  P : Value
  T : Value
  qb : Nat → Nat
  ib : Nat → Nat
  ob : Nat → Nat
def ptrs (L : Lay) (n : Nat) : List Value := (List.range n).map fun i => .pointer (some ⟨L.qb i, 0, none⟩)
structure At (w : World) (base top b : Nat) (L : Lay) (s : St) : Prop where
  hb : Has w b [L.P, L.T, .int .u64 s.came, .int .u64 s.sent] 70
  hp : QRow w base 71 1 L.P s.qs.length (ptrs L s.qs.length)
  ht : QRow w base 3 1 L.T 128 (s.tab.map (Value.int .i64))
  q : ∀ i q, s.qs[i]? = some q → QAt w s.size (L.qb i) (L.ib i) (L.ob i) q
  dq : ∀ i j, i < s.qs.length → j < s.qs.length → i ≠ j → L.qb i ≠ L.qb j ∧ L.ib i ≠ L.ib j ∧ L.ob i ≠ L.ob j
  n1 : 1 ≤ s.qs.length
  n8 : s.qs.length ≤ 8
  s1 : 1 ≤ s.size
  s8 : s.size ≤ 256
  tl : s.tab.length = 128
  tr : ∀ x ∈ s.tab, 0 ≤ x ∧ x < s.qs.length
  gb : base ≤ b ∧ b < top
  gq : ∀ i, i < s.qs.length → (base ≤ L.qb i ∧ L.qb i < top) ∧ (base ≤ L.ib i ∧ L.ib i < top) ∧ (base ≤ L.ob i ∧ L.ob i < top)
  gp : ∀ k, L.P.ownBlock = some k → k < top
  tz : top ≤ w.heap.size
section
variable {w : World} {base top b : Nat} {L : Lay} {s : St}
theorem At.move (h : At w base top b L s) {w' : World} (hs : w.heap.size ≤ w'.heap.size) (hk : ∀ k, base ≤ k → k < top → w'.heap[k]? = w.heap[k]?) (ht : ∀ k, L.T.ownBlock = some k → w'.heap[k]? = w.heap[k]?) : At w' base top b L s :=
  ⟨(hk b h.gb.1 h.gb.2).trans h.hb, q_move h.hp fun k hk' => hk k (q_typed h.hp k hk').1 (h.gp k hk'), q_move h.ht ht, fun i q hq => (h.q i q hq).move fun k hk' => by
    have hi := (List.getElem?_eq_some_iff.1 hq).1
    obtain ⟨g1, g2, g3⟩ := h.gq i hi
    rcases hk' with rfl | rfl | rfl
    · exact hk _ g1.1 g1.2
    · exact hk _ g2.1 g2.2
    · exact hk _ g3.1 g3.2, h.dq, h.n1, h.n8, h.s1, h.s8, h.tl, h.tr, h.gb, h.gq, h.gp, Nat.le_trans h.tz hs⟩
theorem At.drew (h : At w base top b L s) : At w.drew base top b L s := h.move (Nat.le_refl _) (fun _ _ _ => rfl) fun _ _ => rfl
theorem At.drewN (h : At w base top b L s) (n : Nat) : At (w.drewN n) base top b L s := h.move (Nat.le_refl _) (fun _ _ _ => rfl) fun _ _ => rfl
theorem At.still (h : At w base top b L s) {w' : World} (hc : Ch nob w w') : At w' base top b L s :=
  h.move hc.size (fun k _ hk => hc.block k (by have := h.tz; omega) id) fun k hk => hc.block k (q_lt h.ht k hk) id
theorem At.alloc (h : At w base top b L s) (o : Obj) : At (w.alloc o) base top b L s := h.still ((Ch.refl _ _).alloc o)
/-- What is read of it. -/
theorem At.read (h : At w base top b L s) : ∃ pb po c, L.P = .slice (some ⟨pb, po, none⟩) s.qs.length c ∧ w.cell? ⟨b, 0, none⟩ = some (.slice (some ⟨pb, po, none⟩) s.qs.length c) ∧ ∀ i, i < s.qs.length → w.cell? ⟨pb, po + i, none⟩ = some (.pointer (some ⟨L.qb i, 0, none⟩)) := by
  obtain ⟨A, c, e, _⟩ := q_slice h.hp
  have hp := h.hp
  rw [e] at hp
  obtain ⟨g, o, rfl, _, hc⟩ := q_at hp h.n1
  refine ⟨g, o, c, e, h.hb.cell (by rw [← e]; rfl), fun i hi => (hc i _ ?_).1⟩
  unfold ptrs
  rw [List.getElem?_map, List.getElem?_range hi]
  rfl
/-- The same, the place known. -/
theorem At.rd (h : At w base top b L s) {pb po c : Nat} (e : L.P = .slice (some ⟨pb, po, none⟩) s.qs.length c) : w.cell? ⟨b, 0, none⟩ = some (.slice (some ⟨pb, po, none⟩) s.qs.length c) ∧ ∀ i, i < s.qs.length → w.cell? ⟨pb, po + i, none⟩ = some (.pointer (some ⟨L.qb i, 0, none⟩)) := by
  obtain ⟨pb', po', c', e', h0, h1⟩ := h.read
  rw [e] at e'
  injection e' with e1 e2 e3
  injection e1 with e1
  injection e1 with e4 e5
  subst e3 e4 e5
  exact ⟨h0, h1⟩
theorem At.qu (h : At w base top b L s) (i : Nat) (hi : i < s.qs.length) : ∃ q, s.qs[i]? = some q ∧ QAt w s.size (L.qb i) (L.ib i) (L.ob i) q := ⟨_, List.getElem?_eq_getElem hi, h.q i _ (List.getElem?_eq_getElem hi)⟩
end
theorem nil68 (w : World) (a : Option Addr) (n c n' c' : Nat) : (binOp .eql 68 (.slice a n c) (.slice none n' c')).run Try.prog w = .ok (.bool a.isNone) w := Lib.run_eql_slice_nil w 68 71 a n c n' c' Try.underlying68

set_option maxHeartbeats 1000000 in
theorem of_nil (x : Int) (w : World) : Calls Try.prog 32 #[.pointer none, .int .i64 x] w fun e w' => e = .returned (.tuple #[.pointer none, .int .i64 1]) ∧ w = w' := by
  go_enter Try.func32, Try.ntmps32
  go_wp2
  go_ret2
  exact ⟨rfl, rfl⟩
section
variable {w : World} {base top b : Nat} {L : Lay} {s : St}
set_option maxHeartbeats 1000000 in
theorem of_bad (h : At w base top b L s) (x : Int) (hx : x < 0 ∨ (s.qs.length : Int) ≤ x) : Calls Try.prog 32 #[.pointer (some ⟨b, 0, none⟩), .int .i64 x] w fun e w' => e = .returned (.tuple #[.pointer none, .int .i64 2]) ∧ w = w' := by
  obtain ⟨pb, po, c, _, c0, _⟩ := h.read
  have hnil := nil68
  clear h
  by_cases h1 : x < 0
  · go_enter Try.func32, Try.ntmps32
    go_wp2
    go_ret2
    exact ⟨rfl, rfl⟩
  · have h2 : (s.qs.length : Int) ≤ x := by omega
    clear hx
    go_enter Try.func32, Try.ntmps32
    go_wp2
    go_ret2
    exact ⟨rfl, rfl⟩
set_option maxHeartbeats 1000000 in
theorem of_ok (h : At w base top b L s) (i : Nat) (hi : i < s.qs.length) : Calls Try.prog 32 #[.pointer (some ⟨b, 0, none⟩), .int .i64 i] w fun e w' => e = .returned (.tuple #[.pointer (some ⟨L.qb i, 0, none⟩), .int .i64 0]) ∧ w = w' := by
  obtain ⟨pb, po, c, _, c0, hc⟩ := h.read
  have hci := hc i hi
  have hn8 := h.n8
  have hnil := nil68
  clear h hc
  go_enter Try.func32, Try.ntmps32
  go_wp2
  go_ret2
  exact ⟨rfl, rfl⟩
end
end Go.Proofs.Ytbpinkelcbcpjaa.Ni
