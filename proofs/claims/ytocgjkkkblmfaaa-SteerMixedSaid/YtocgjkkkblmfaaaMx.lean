import Derived.Test.YtocgjkkkblmfaaaPSteerMixedx1
import Derived.Test.YtocgjkkkblmfaaaTx
import Derived.Lib.ConvBytes
import Derived.Laws.BitsAllLaws
import Derived.Lib.SmallJoins
namespace Go.Proofs.Ytocgjkkkblmfaaa.St
open Go.RowKit Blk Go.Proofs.YtocgjkkkblmfaaaW.PrintWords
set_option linter.unusedVariables false
set_option linter.unusedSimpArgs false

/-- A row of bytes at a block; what is frozen of the block lies behind them. -/
def Cs (w : World) (b n : Nat) (f : Nat → Int) : Prop := ∃ c fz, w.heap[b]? = some (.cells c 5 fz) ∧ (fz.2 = 0 ∨ n ≤ fz.1) ∧ ∀ j, j < n → c[j]? = some (.int .u8 (f j))
theorem Cs.cell {w : World} {b n : Nat} {f : Nat → Int} (h : Cs w b n f) {j : Nat} (hj : j < n) : w.cell? ⟨b, j, none⟩ = some (.int .u8 (f j)) := by
  obtain ⟨c, fz, hh, _, hc⟩ := h
  unfold World.cell?; rw [hh]; simpa using hc j hj
theorem Cs.free {w : World} {b n : Nat} {f : Nat → Int} (h : Cs w b n f) {j : Nat} (hj : j < n) : w.frozen? ⟨b, j, none⟩ = false := by
  obtain ⟨c, fz, hh, hf, _⟩ := h
  unfold World.frozen?; rw [hh]; simp; omega
theorem Cs.lt {w : World} {b n : Nat} {f : Nat → Int} (h : Cs w b n f) : b < w.heap.size := by
  obtain ⟨c, fz, hh, _⟩ := h
  rcases Nat.lt_or_ge b w.heap.size with x | x
  · exact x
  · rw [Array.getElem?_eq_none x] at hh; cases hh
theorem Cs.of {w w' : World} {b n : Nat} {f : Nat → Int} (h : Cs w b n f) (e : w'.heap[b]? = w.heap[b]?) : Cs w' b n f := by
  unfold Cs; rw [e]; exact h
theorem Cs.drew {w : World} {b n : Nat} {f : Nat → Int} (h : Cs w b n f) : Cs w.drew b n f := h
theorem Cs.drewN {w : World} {b n : Nat} {f : Nat → Int} (h : Cs w b n f) (k : Nat) : Cs (w.drewN k) b n f := h
theorem Cs.alloc {w : World} {b n : Nat} {f : Nat → Int} (h : Cs w b n f) (o : Obj) : Cs (w.alloc o) b n f := by
  have hl := h.lt
  refine h.of ?_
  show (w.heap.push o)[b]? = _
  rw [Array.getElem?_push]; split
  · omega
  · rfl
theorem Cs.conv {w : World} {b n : Nat} {f : Nat → Int} (h : Cs w b n f) (e : TypeId) (s : ByteArray) : Cs (Lib.bytesWorld w e s) b n f := h.of (Lib.bytesWorld_at_old w e s b h.lt)
theorem Cs.newConv (w : World) (s : ByteArray) : Cs (Lib.bytesWorld w 5 s) w.heap.size s.size (fun j => (byteAt s j : Int)) := by
  refine ⟨_, _, Lib.bytesWorld_at_new w 5 s, .inr ?_, fun j hj => ?_⟩
  · simp [Lib.bytesCells]
  · have hj' : j < s.data.size := hj
    rw [Lib.bytesCells, Array.getElem?_append_left (by simpa using hj'), Array.getElem?_map, Array.getElem?_eq_getElem hj']
    have hl : j < s.data.toList.length := by simpa using hj'
    have e : byteAt s j = s.data[j].toNat := by
      unfold byteAt
      rw [List.getD_eq_getElem?_getD, List.getElem?_eq_getElem hl]
      simp
    simp only [Option.map_some, e]
theorem Cs.newConv' (w : World) (s : ByteArray) (b : Nat) (h : b = w.heap.size) : Cs (Lib.bytesWorld w 5 s) b s.size (fun j => (byteAt s j : Int)) := by subst h; exact Cs.newConv w s
theorem Cs.newMake (w : World) (n : Nat) : Cs (w.alloc (.cells (madeCells #[Value.int .u8 0] n) 5)) w.heap.size n (fun _ => 0) := by
  refine ⟨_, (0, 0), (show (w.heap.push _)[w.heap.size]? = _ from Array.getElem?_push_size), .inl rfl, fun j hj => ?_⟩
  have := size_madeCells #[Value.int .u8 0] n
  rw [Array.getElem?_eq_getElem (by omega)]
  congr 1
  simp [madeCells, Nat.mod_one]
theorem Cs.set {w : World} {b n : Nat} {f : Nat → Int} (h : Cs w b n f) (i : Nat) (v : Int) : Cs (w.setCell ⟨b, i, none⟩ (.int .u8 v)) b n (fun j => if j = i then v else f j) := by
  obtain ⟨c, fz, hh, hf, hc⟩ := h
  refine ⟨c.setIfInBounds i (.int .u8 v), fz, ?_, hf, fun j hj => ?_⟩
  · unfold World.setCell
    simp only [Array.getElem?_modify, hh]
    simp
  · have := hc j hj
    have hjc : j < c.size := by
      rcases Nat.lt_or_ge j c.size with x | x
      · exact x
      · rw [Array.getElem?_eq_none x] at this; cases this
    rw [Array.getElem?_setIfInBounds]
    by_cases e : i = j
    · subst e; simp [hjc]
    · rw [if_neg e, this]; show _ = some (Value.int .u8 (if j = i then v else f j)); rw [if_neg (fun x => e x.symm)]
theorem Cs.setOther {w : World} {b n : Nat} {f : Nat → Int} (h : Cs w b n f) (a : Addr) (v : Value) (hb : b ≠ a.block) : Cs (w.setCell a v) b n f := h.of (heap_set _ _ _ _ hb)

theorem Cs.congr {w : World} {b n : Nat} {f g : Nat → Int} (h : Cs w b n f) (e : ∀ j, j < n → f j = g j) : Cs w b n g := by
  obtain ⟨c, fz, hh, hf, hc⟩ := h
  exact ⟨c, fz, hh, hf, fun j hj => by rw [← e j hj]; exact hc j hj⟩
theorem setB {n : Nat} {w W : World} (h : Below n w W) (b i : Nat) (hb : n ≤ b) (v : Value) : Below n w (W.setCell ⟨b, i, none⟩ v) := h.setCell hb v
theorem Cs.conv9 {w : World} {b n cap : Nat} {f : Nat → Int} (h : Cs w b n f) : (convert 22 9 (.slice (some ⟨b, 0, none⟩) n cap)).run Try.prog w = .ok (.string (strOfNums ((List.range n).map f))) w :=
  run_convert_bytes_arg w 22 5 Try.underlying22 Try.underlying5 b 0 n cap ((List.range n).map f) (by simp) (fun j hj => by
    rw [Nat.zero_add, h.cell hj, List.getD_eq_getElem?_getD]; simp [hj]) 9 Try.underlying9
theorem byte_nums (f : Nat → Int) (n j : Nat) (h : ∀ j, j < n → 0 ≤ f j ∧ f j ≤ 255) (hj : j < n) : byteAt (strOfNums ((List.range n).map f)) j = (f j).toNat := by
  unfold byteAt
  rw [strOfNums_data, List.getD_eq_getElem?_getD, List.getElem?_map, List.getElem?_map, List.getElem?_range hj]
  have := h j hj
  simp
  omega
theorem hsh_lin (key a b c : ByteArray) (n : Nat) (h : ∀ j, j < n → byteAt b j = byteAt a j ^^^ byteAt c j) : ∀ k, k ≤ 8 * n → hsh key a k ^^^ hsh key b k = hsh key c k := by
  intro k
  induction k with
  | zero => intro _; simp [hsh]
  | succ k ih =>
    intro hk
    have ih := ih (by omega)
    have hb : bitAt b k = (bitAt a k ^^ bitAt c k) := by
      unfold bitAt
      rw [h (k / 8) (by omega), Nat.testBit_xor]
    rw [hsh, hsh, hsh, ← ih, hb]
    have e : ∀ X Y W : BitVec 32, X ^^^ W ^^^ (Y ^^^ W) = X ^^^ Y := fun X Y W => by
      rw [BitVec.xor_assoc, BitVec.xor_comm Y W, ← BitVec.xor_assoc W W Y, BitVec.xor_self, BitVec.zero_xor]
    cases bitAt a k <;> cases bitAt c k <;> simp [e] <;> (try ac_rfl)
theorem Cs.both {w : World} {B D n c c' i : Nat} {zs : List Int} (key text : ByteArray) (hn : text.size = n) (hB : Cs w B n fun j => if j < i then ((byteAt text j ^^^ (zs.getD j 0).toNat : Nat) : Int) else (byteAt text j : Int)) (hD : Cs w D n fun j => if j < i then zs.getD j 0 else 0) (hz : ∀ j, j < i → 0 ≤ zs.getD j 0 ∧ zs.getD j 0 ≤ 255) :
    ∃ t1 t2 : ByteArray, t1.size = n ∧ t2.size = n ∧ (∀ m, (convert 22 9 (.slice (some ⟨B, 0, none⟩) n c)).run Try.prog (w.drewN m) = .ok (.string t1) (w.drewN m)) ∧ (∀ m, (convert 22 9 (.slice (some ⟨D, 0, none⟩) n c')).run Try.prog (w.drewN m) = .ok (.string t2) (w.drewN m)) ∧ hsh key text (8 * n) ^^^ hsh key t1 (8 * n) = hsh key t2 (8 * n) := by
  refine ⟨_, _, by rw [strOfNums_size]; simp, by rw [strOfNums_size]; simp, fun m => (hB.drewN m).conv9, fun m => (hD.drewN m).conv9, ?_⟩
  refine hsh_lin key text _ _ n (fun j hj => ?_) _ (Nat.le_refl _)
  rw [byte_nums _ n j (fun j hj => ?_) hj, byte_nums _ n j (fun j hj => ?_) hj]
  · by_cases e : j < i
    · simp only [if_pos e]; rw [Int.toNat_natCast]
    · simp only [if_neg e]; rw [Int.toNat_natCast]; simp
  · by_cases e : j < i
    · simp only [if_pos e]; exact hz j e
    · simp only [if_neg e]; omega
  · by_cases e : j < i
    · simp only [if_pos e]
      have := hz j e
      have := Nat.xor_lt_two_pow (n := 8) (byte_lt text j) (show (zs.getD j 0).toNat < 2 ^ 8 by omega)
      omega
    · simp only [if_neg e]
      have := byte_lt text j
      omega
theorem works_eq : PSteerMixed.stevedorelaw05_works.f 200 = some true := by decide +kernel
theorem addB (x : Addr) (i : Nat) : (x.add i).block = x.block := by unfold Addr.add; split <;> rfl
theorem below_conv {n : Nat} {w W : World} (h : Below n w W) (hn : n ≤ W.heap.size) (e : TypeId) (s : ByteArray) : Below n w (Lib.bytesWorld W e s) :=
  ⟨h.os, h.tape, h.output, by rw [Lib.bytesWorld_size]; have := h.size; omega, fun k hk => by rw [Lib.bytesWorld_at_old W e s k (by omega)]; exact h.block k hk⟩

set_option maxHeartbeats 4000000 in
set_option maxRecDepth 1000000 in
theorem mixed_ok (key text : ByteArray) (A : Option Addr) (len cap : Nat) (zs : List Int) (w : World) (hk : key.size = 40) (ht : text.size ≤ 36) (hl : len ≤ 1024) (hA : 0 < len → ∃ x, A = some x ∧ x.block < w.heap.size ∧ ∀ i, i < len → w.cell? (x.add i) = some (.int .u8 (zs.getD i 0))) (hzs : ∀ i, i < len → 0 ≤ zs.getD i 0 ∧ zs.getD i 0 ≤ 255) :
    Calls Try.prog 3 #[.string key, .string text, .slice A len cap] w fun e w' => e = .returned (.bool true) ∧ Below w.heap.size w w' := by
  have g1 : ((key.size : Int) != 40) = false := by rw [hk]; rfl
  have g2 : decide ((36 : Int) < ↑text.size) = false := decide_eq_false (by omega)
  have g3 : decide ((1024 : Int) < ↑len) = false := decide_eq_false (by omega)
  have hcv := fun (W : World) => Lib.run_convert_string_bytes (P := Try.prog) W 9 22 5 text Try.underlying9 Try.underlying22 Try.underlying5
  obtain ⟨i0, hi, hz0, hz1, hz2⟩ := info_parts info5
  have hmk : ∀ W : World, (Instr.makeSlice 22 (.int .i64 (text.size : Int)) (.int .i64 (text.size : Int))).run Try.prog W = .ok (.slice (some ⟨W.heap.size, 0, none⟩) text.size text.size) (W.alloc (.cells (madeCells (Value.int .u8 0).cells (text.size * 1)) 5)) := by
    intro W
    have := run_make (P := Try.prog) W 22 5 i0 (.int .u8 0) Try.underlying22 hi hz0 .i64 .i64 (text.size : Int) (text.size : Int) (by omega) (by omega) (by rw [hz2]; omega) (by omega)
    simpa [hz1] using this
  go_enter Try.func3, Try.ntmps3
  go_upto_region 3 with (fail)
  go_cut [7, 8] (fun v7 v8 wc => ∃ B D c c', v7 = .slice (some ⟨B, 0, none⟩) text.size c ∧ v8 = .slice (some ⟨D, 0, none⟩) text.size c' ∧ B ≠ D ∧ Aside0 (w.heap.size ≤ B) ∧ Aside0 (w.heap.size ≤ D) ∧ Aside0 (Cs wc B text.size fun j => (byteAt text j : Int)) ∧ Aside0 (Cs wc D text.size fun _ => 0) ∧ Aside0 (Below w.heap.size w wc))
  case first =>
    go_region
    all_goals go_wp2
    all_goals go_meet
    all_goals (case rel => first | exact ⟨_, _, _, _, rfl, rfl, by first | omega | (simp [Lib.bytesWorld_size]; done) | (simp [Lib.bytesWorld_size]; omega), ⟨by first | omega | (simp [Lib.bytesWorld_size]; done) | (simp [Lib.bytesWorld_size]; omega)⟩, ⟨by first | omega | (simp [Lib.bytesWorld_size]; done) | (simp [Lib.bytesWorld_size]; omega)⟩, ⟨by repeat (first | exact Cs.newConv _ _ | exact Cs.newConv' _ _ _ (by simp) | apply Cs.alloc | apply Cs.drew)⟩, ⟨by repeat (first | exact Cs.newMake _ _ | apply Cs.conv | apply Cs.drew)⟩, ⟨by repeat (first | exact Below.refl _ _ | (refine Below.alloc ?_ (by first | omega | (simp [Lib.bytesWorld_size]; done) | (simp [Lib.bytesWorld_size]; omega)) _) | (refine below_conv ?_ (by first | omega | (simp [Lib.bytesWorld_size]; done) | (simp [Lib.bytesWorld_size]; omega)) _ _) | apply Below.drew)⟩⟩ | trace_state)
  case rest =>
    obtain ⟨B, D, c, c', rfl, rfl, hne, hB0, hD0, hB, hD, HB⟩ := hcut
    go_wp2
    go_loopw [9] (fun vi wr => ∃ i : Nat, i ≤ text.size ∧ i ≤ len ∧ vi = .int .i64 i ∧ Aside0 (Cs wr B text.size fun j => if j < i then ((byteAt text j ^^^ (zs.getD j 0).toNat : Nat) : Int) else (byteAt text j : Int)) ∧ Aside0 (Cs wr D text.size fun j => if j < i then zs.getD j 0 else 0) ∧ Aside0 (Below w.heap.size w wr)) (fun vi _ => len - (intOf vi).toNat)
    case atStart => exact ⟨0, Nat.zero_le _, Nat.zero_le _, rfl, hB, hD, HB⟩
    case round =>
      clear hB hD HB
      obtain ⟨i, hi1, hi2, rfl, hB, hD, HB⟩ := hrel
      by_cases c1 : i < text.size
      · have e1 : decide ((i : Int) < ↑text.size) = true := decide_eq_true (by omega)
        by_cases c2 : i < len
        · obtain ⟨x, rfl, hx, hcs⟩ := hA (by omega)
          have e2 : decide ((i : Int) < ↑len) = true := decide_eq_true (by omega)
          have k1 := hB.out.cell c1
          have k2 := hD.out.cell c1
          have k3 := hB.out.free c1
          have k4 := hD.out.free c1
          have kx : wr.cell? (x.add i) = some (.int .u8 (zs.getD i 0)) := by
            rw [← hcs i c2]
            unfold World.cell?
            rw [HB.out.block _ (by rw [addB]; exact hx)]
          obtain ⟨z, hz⟩ : ∃ z, zs.getD i 0 = z := ⟨_, rfl⟩
          obtain ⟨t, ht'⟩ : ∃ t, byteAt text i = t := ⟨_, rfl⟩
          have kx2 : ∀ u : Value, (wr.setCell ⟨B, i, none⟩ u).cell? (x.add i) = some (.int .u8 (zs.getD i 0)) := by
            intro u
            rw [← kx]
            unfold World.cell?
            rw [heap_set _ _ _ _ (by rw [addB]; have := hB0.out; show x.block ≠ B; omega)]
          rw [hz] at kx
          simp only [hz] at kx2
          simp only [Nat.lt_irrefl, if_false, ht'] at k1 k2
          go_wp2
          go_region
          all_goals go_wp2
          have hbd := hB0.out
          have hdd := hD0.out
          have hzb := hzs i c2
          rw [hz] at hzb
          have hv : bits .xor .u8 (t : Int) z = ((byteAt text i ^^^ (zs.getD i 0).toNat : Nat) : Int) := by
            rw [hz, ht', u8_xor _ _ (by omega) (by have := byte_lt text i; omega) hzb.1 (by omega), Int.toNat_natCast]
          refine ⟨⟨i + 1, c1, c2, by go_num, ⟨?_⟩, ⟨?_⟩, ⟨?_⟩⟩, by simp [intOf]; omega⟩
          · refine (((hB.out.set i _).setOther ⟨D, i, none⟩ _ hne).drew).congr fun j hj => ?_
            by_cases e : j = i
            · subst e; simp only [if_true]; rw [hv, if_pos (by omega)]
            · simp only [if_neg e]; by_cases e2 : j < i
              · rw [if_pos e2, if_pos (by omega)]
              · rw [if_neg e2, if_neg (by omega)]
          · refine (((hD.out.setOther ⟨B, i, none⟩ _ (fun e => hne e.symm)).set i _).drew).congr fun j hj => ?_
            by_cases e : j = i
            · subst e; simp only [if_true]; rw [if_pos (by omega), hz]
            · simp only [if_neg e]; by_cases e2 : j < i
              · rw [if_pos e2, if_pos (by omega)]
              · rw [if_neg e2, if_neg (by omega)]
          · exact (setB (setB HB.out B i hbd _) D i hdd _).drew
        · have e2 : decide ((i : Int) < ↑len) = false := decide_eq_false (by omega)
          obtain ⟨t1, t2, z1, z2, q1, q2, hlin⟩ := Cs.both (c := c) (c' := c') key text rfl hB.out hD.out (fun j hj => hzs j (by omega))
          have Q1 := Lib.hid q1
          have Q2 := Lib.hid q2
          have h0 := hash_ok key text
          have h1 := hash_ok key t1
          have h2 := hash_ok key t2
          rw [z1] at h1
          rw [z2] at h2
          have HX := Lib.hid (show bits .xor .u32 (((hsh key text (8 * text.size)).toNat : Nat) : Int) (((hsh key t1 (8 * text.size)).toNat : Nat) : Int) = (((hsh key t2 (8 * text.size)).toNat : Nat) : Int) by rw [xor_bv, hlin])
          clear q1 q2 hlin hcv hmk hB hD
          generalize (hsh key text (8 * text.size)).toNat = r0 at h0 HX
          generalize (hsh key t1 (8 * text.size)).toNat = r1 at h1 HX
          generalize (hsh key t2 (8 * text.size)).toNat = r2 at h2 HX
          go_wp2_with (go_at_call 9; refine (h0 _ hk ht).mono ?_; rintro e w' ⟨rfl, n1, rfl⟩)
          rw [Q1.out]
          go_wp2_with (go_at_call 9; refine (h1 _ hk (by omega)).mono ?_; rintro e w' ⟨rfl, n2, rfl⟩)
          rw [Q2.out]
          have hx2 : (bits .xor .u32 (r0 : Int) (r1 : Int) == (r2 : Int)) = true := by rw [HX.out]; exact beq_self_eq_true _
          go_wp2_with (go_at_call 9; refine (h2 _ hk (by omega)).mono ?_; rintro e w' ⟨rfl, n3, rfl⟩)
          go_wp2_with (go_at_call 8; refine (PSteerMixed.stevedorelaw05_works.calls 200 true _ works_eq).mono ?_; rintro e w' ⟨rfl, hb⟩)
          go_ret
          exact ⟨rfl, below_step (pw_below_drewN HB.out _) hb⟩
      · have e1 : decide ((i : Int) < ↑text.size) = false := decide_eq_false (by omega)
        obtain ⟨t1, t2, z1, z2, q1, q2, hlin⟩ := Cs.both (c := c) (c' := c') key text rfl hB.out hD.out (fun j hj => hzs j (by omega))
        have Q1 := Lib.hid q1
        have Q2 := Lib.hid q2
        have h0 := hash_ok key text
        have h1 := hash_ok key t1
        have h2 := hash_ok key t2
        rw [z1] at h1
        rw [z2] at h2
        have HX := Lib.hid (show bits .xor .u32 (((hsh key text (8 * text.size)).toNat : Nat) : Int) (((hsh key t1 (8 * text.size)).toNat : Nat) : Int) = (((hsh key t2 (8 * text.size)).toNat : Nat) : Int) by rw [xor_bv, hlin])
        clear q1 q2 hlin hcv hmk hB hD
        generalize (hsh key text (8 * text.size)).toNat = r0 at h0 HX
        generalize (hsh key t1 (8 * text.size)).toNat = r1 at h1 HX
        generalize (hsh key t2 (8 * text.size)).toNat = r2 at h2 HX
        go_wp2_with (go_at_call 9; refine (h0 _ hk ht).mono ?_; rintro e w' ⟨rfl, n1, rfl⟩)
        rw [Q1.out]
        go_wp2_with (go_at_call 9; refine (h1 _ hk (by omega)).mono ?_; rintro e w' ⟨rfl, n2, rfl⟩)
        rw [Q2.out]
        have hx2 : (bits .xor .u32 (r0 : Int) (r1 : Int) == (r2 : Int)) = true := by rw [HX.out]; exact beq_self_eq_true _
        go_wp2_with (go_at_call 9; refine (h2 _ hk (by omega)).mono ?_; rintro e w' ⟨rfl, n3, rfl⟩)
        go_wp2_with (go_at_call 8; refine (PSteerMixed.stevedorelaw05_works.calls 200 true _ works_eq).mono ?_; rintro e w' ⟨rfl, hb⟩)
        go_ret
        exact ⟨rfl, below_step (pw_below_drewN HB.out _) hb⟩

set_option maxHeartbeats 1000000 in
theorem mixed_out (key text : ByteArray) (A : Option Addr) (len cap : Nat) (w : World) (h : ¬ (key.size = 40 ∧ text.size ≤ 36 ∧ len ≤ 1024)) :
    Calls Try.prog 3 #[.string key, .string text, .slice A len cap] w fun e w' => e = .returned (.bool true) ∧ Below w.heap.size w w' := by
  by_cases c1 : key.size = 40
  · have g1 : ((key.size : Int) != 40) = false := by rw [c1]; rfl
    by_cases c2 : text.size ≤ 36
    · have g2 : decide ((36 : Int) < ↑text.size) = false := decide_eq_false (by omega)
      have g3 : decide ((1024 : Int) < ↑len) = true := decide_eq_true (by omega)
      go_enter Try.func3, Try.ntmps3
      go_wp2_with (go_at_call 8; refine (PSteerMixed.stevedorelaw05_works.calls 200 true _ works_eq).mono ?_; rintro e w' ⟨rfl, hb⟩)
      go_ret
      exact ⟨rfl, hb⟩
    · have g2 : decide ((36 : Int) < ↑text.size) = true := decide_eq_true (by omega)
      go_enter Try.func3, Try.ntmps3
      go_wp2_with (go_at_call 8; refine (PSteerMixed.stevedorelaw05_works.calls 200 true _ works_eq).mono ?_; rintro e w' ⟨rfl, hb⟩)
      go_ret
      exact ⟨rfl, hb⟩
  · have g1 : ((key.size : Int) != 40) = true := by rw [bne_iff_ne]; omega
    go_enter Try.func3, Try.ntmps3
    go_wp2_with (go_at_call 8; refine (PSteerMixed.stevedorelaw05_works.calls 200 true _ works_eq).mono ?_; rintro e w' ⟨rfl, hb⟩)
    go_ret
    exact ⟨rfl, hb⟩

theorem mixed (key text : ByteArray) (a : Option Addr) (len cap : Nat) (zs : List Int) (w : World)
    (h : (a = none ∧ len = 0 ∧ cap = 0 ∧ zs = []) ∨ ∃ x, a = some x ∧ len ≤ cap ∧ cap ≤ maxLen ∧ zs.length = cap ∧ (∀ i, i < zs.length → w.cell? (x.add i) = some (.int .u8 (zs.getD i 0))) ∧ ∀ n ∈ zs, (Lit.int .u8 n).wf = true) :
    Calls Try.prog 3 #[.string key, .string text, .slice a len cap] w fun e w' => e = .returned (.bool true) ∧ Below w.heap.size w w' := by
  by_cases c : key.size = 40 ∧ text.size ≤ 36 ∧ len ≤ 1024
  · refine mixed_ok key text a len cap zs w c.1 c.2.1 c.2.2 (fun hl => ?_) (fun i hi => ?_)
    · rcases h with ⟨_, h0, _⟩ | ⟨x, rfl, h1, _, h2, hc, _⟩
      · omega
      · refine ⟨x, rfl, ?_, fun i hi => hc i (by omega)⟩
        have := hc 0 (by omega)
        rcases Nat.lt_or_ge x.block w.heap.size with y | y
        · exact y
        · unfold World.cell? at this; rw [addB, Array.getElem?_eq_none y] at this; cases this
    · rcases h with ⟨_, h0, _⟩ | ⟨x, rfl, h1, _, h2, _, hw⟩
      · omega
      · have hl : i < zs.length := by omega
        have := bounds_u8 (hw _ (List.getElem_mem hl))
        rw [List.getD_eq_getElem?_getD, List.getElem?_eq_getElem hl]
        simp only [Option.getD_some]
        omega
  · exact mixed_out key text a len cap w c
end Go.Proofs.Ytocgjkkkblmfaaa.St
