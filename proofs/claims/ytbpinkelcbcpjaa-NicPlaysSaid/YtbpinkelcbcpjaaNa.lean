import Derived.Test.YtbpinkelcbcpjaaProg
import Derived.Test.YtbpinkelcbcpjaaObj
import Derived.Test.YtbpinkelcbcpjaaWWords
import Derived.Test.YtbpinkelcbcpjaaWMore
import Derived.FnLit
import Derived.KernelRfl
import Derived.Outline
import Derived.Lib.Hide
import Derived.Tactics
import Derived.RegionTactic
import Derived.BigRegion
import Derived.LoopTactic
import Derived.OwnWalk
import Derived.StillTailTactics
import Derived.Deep.QuietTactic
import Derived.BigQuiet
import Derived.Deep.LoopGhost
import Derived.Deep.OwnRows
import Derived.WideLaws
import Derived.Laws.IdiomCopy
import Derived.Laws.CopyRow
import Derived.Laws.MakeOwn
import Derived.Laws.OwnMore
import Derived.WalkSpells
namespace Go.Proofs.Ytbpinkelcbcpjaa.Ni
open Go.RowKit Blk Go.Proofs.YtbpinkelcbcpjaaW.PrintWords
set_option linter.unusedVariables false

theorem info3 : (Try.prog.info? 3).map (fun i => (i.zero, i.size, i.bytes)) = some (some (.int .i64 0), 1, 8) := by kernel_rfl
theorem info9 : (Try.prog.info? 9).map (fun i => (i.zero, i.size, i.bytes)) = some (some (.string ⟨#[]⟩), 1, 16) := by kernel_rfl
theorem info53 : (Try.prog.info? 53).map (fun i => (i.zero, i.size, i.bytes)) = some (some (.agg #[.int .u32 0, .string ⟨#[]⟩]), 2, 24) := by kernel_rfl
theorem info71 : (Try.prog.info? 71).map (fun i => (i.zero, i.size, i.bytes)) = some (some (.pointer none), 1, 8) := by kernel_rfl

/-- A frame that came: its hash, its text. -/
abbrev Sl := Int × ByteArray
def eS (p : Sl) : List Value := [.int .u32 p.1, .string p.2]
def flat (l : List Sl) : List Value := l.flatMap eS
def strs (l : List ByteArray) : List Value := l.map Value.string
theorem flat_len (l : List Sl) : (flat l).length = l.length * 2 := by
  induction l with
  | nil => rfl
  | cons p r ih => simp [flat, eS] at ih ⊢; omega
theorem flat_cons (p : Sl) (l : List Sl) : flat (p :: l) = .int .u32 p.1 :: .string p.2 :: flat l := rfl
theorem flat_app (a b : List Sl) : flat (a ++ b) = flat a ++ flat b := by simp [flat]
theorem flat_at (l : List Sl) (i : Nat) (p : Sl) (h : l[i]? = some p) : (flat l)[i * 2]? = some (.int .u32 p.1) ∧ (flat l)[i * 2 + 1]? = some (.string p.2) := by
  induction l generalizing i with
  | nil => simp at h
  | cons q l ih =>
    rw [flat_cons]
    cases i with
    | zero =>
      simp at h
      subst h
      exact ⟨rfl, rfl⟩
    | succ i =>
      have := ih i (by simpa using h)
      rw [show (i + 1) * 2 = i * 2 + 1 + 1 by omega]
      exact this
theorem flat_set (l : List Sl) (i : Nat) (p : Sl) (h : i < l.length) : ((flat l).set (i * 2) (.int .u32 p.1)).set (i * 2 + 1) (.string p.2) = flat (l.set i p) := by
  induction l generalizing i with
  | nil => exact absurd h (Nat.not_lt_zero _)
  | cons q l ih =>
    rw [flat_cons]
    cases i with
    | zero => rfl
    | succ i =>
      have := ih i (by simpa using h)
      rw [show (i + 1) * 2 = i * 2 + 1 + 1 by omega, List.set_cons_succ, List.set_cons_succ, List.set_cons_succ, List.set_cons_succ, this]
      rfl
theorem flat_drop (l : List Sl) (i : Nat) : (flat l).drop (i * 2) = flat (l.drop i) := by
  induction l generalizing i with
  | nil => simp [flat]
  | cons q l ih =>
    cases i with
    | zero => rfl
    | succ i => rw [flat_cons, show (i + 1) * 2 = i * 2 + 1 + 1 by omega]; exact ih i
theorem flat_take (l : List Sl) (i : Nat) : (flat l).take (i * 2) = flat (l.take i) := by
  induction l generalizing i with
  | nil => simp [flat]
  | cons q l ih =>
    cases i with
    | zero => rfl
    | succ i =>
      rw [flat_cons, show (i + 1) * 2 = i * 2 + 1 + 1 by omega, List.take_succ_cons, List.take_succ_cons, ih i]
      rfl
theorem flat_one (l : List Sl) : ∀ v ∈ flat l, v.oneCell' = true := by
  intro v hv
  obtain ⟨p, _, hv⟩ := List.mem_flatMap.1 hv
  simp [eS] at hv
  rcases hv with rfl | rfl <;> rfl
theorem strs_one (l : List ByteArray) : ∀ v ∈ strs l, v.oneCell' = true := by
  intro v hv
  obtain ⟨p, _, rfl⟩ := List.mem_map.1 hv
  rfl
theorem strs_len (l : List ByteArray) : (strs l).length = l.length := List.length_map ..

/-- A queue of a card. -/
structure Qu where
  a : List Sl
  af : Nat
  an : Nat
  o : List ByteArray
  of : Nat
  on : Nat
  armed : Bool
/-- Its cells. -/
def qc (ib ob size : Nat) (q : Qu) : List Value := [.slice (some ⟨ib, 0, none⟩) size size, .int .i64 q.af, .int .i64 q.an, .slice (some ⟨ob, 0, none⟩) size size, .int .i64 q.of, .int .i64 q.on, .bool q.armed]
structure QAt (w : World) (size qb ib ob : Nat) (q : Qu) : Prop where
  hq : Has w qb (qc ib ob size q) 77
  hi : Has w ib (flat q.a) 53
  ho : Has w ob (strs q.o) 9
  la : q.a.length = size
  lo : q.o.length = size
  fa : q.af < size
  na : q.an ≤ size
  fo : q.of < size
  no : q.on ≤ size
theorem has_ne {w : World} {a b : Nat} {c d : List Value} {S T : TypeId} (h : Has w a c S) (k : Has w b d T) (hT : S ≠ T) : a ≠ b := by
  rintro rfl
  unfold Has at h k
  rw [h] at k
  simp only [Option.some.injEq, Obj.cells.injEq] at k
  exact hT k.2.1
theorem QAt.move {w w' : World} {size qb ib ob : Nat} {q : Qu} (h : QAt w size qb ib ob q) (hk : ∀ k, k = qb ∨ k = ib ∨ k = ob → w'.heap[k]? = w.heap[k]?) : QAt w' size qb ib ob q :=
  ⟨(hk _ (.inl rfl)).trans h.hq, (hk _ (.inr (.inl rfl))).trans h.hi, (hk _ (.inr (.inr rfl))).trans h.ho, h.la, h.lo, h.fa, h.na, h.fo, h.no⟩
theorem QAt.drew {w : World} {size qb ib ob : Nat} {q : Qu} (h : QAt w size qb ib ob q) : QAt w.drew size qb ib ob q := h.move fun _ _ => rfl
theorem QAt.drewN {w : World} {size qb ib ob : Nat} {q : Qu} (h : QAt w size qb ib ob q) (n : Nat) : QAt (w.drewN n) size qb ib ob q := h.move fun _ _ => rfl
theorem QAt.alloc {w : World} {size qb ib ob : Nat} {q : Qu} (h : QAt w size qb ib ob q) (o : Obj) : QAt (w.alloc o) size qb ib ob q :=
  ⟨h.hq.alloc o, h.hi.alloc o, h.ho.alloc o, h.la, h.lo, h.fa, h.na, h.fo, h.no⟩

/-- A copy's run, cell by cell known. -/
theorem run_copy_e {P : Program} (w : World) (dT sT ty elem : TypeId) (size g o dLen dCap : Nat) (a : Addr) (sLen sCap : Nat) (cur : List Value) (t : TypeId) (cs : List Value) (k : Nat)
    (hu : P.underlying dT = some (.slice elem)) (hs : (P.info? elem).map (·.size) = some size)
    (hg : Has w g cur t) (hk : k = Nat.min sLen dLen) (hn : cs.length = k * size)
    (hsrc : ∀ j v, cs[j]? = some v → w.cell? (a.add j) = some v) (hfit : o + cs.length ≤ cur.length) (h1 : ∀ v ∈ cs, v.oneCell' = true) :
    (Builtin.copy_ #[dT, sT] ty #[.slice (some ⟨g, o, none⟩) dLen dCap, .slice (some a) sLen sCap]).run P w =
      .ok (.int .i64 k) (w.setRow g (cur.take o ++ cs ++ cur.drop (o + cs.length)).toArray) := by
  have hl := run_loadCells_list (P := P) w a cs hsrc
  have hst := run_storeCells_at P g o t cs 0 cur.toArray w hg (by simpa using hfit) h1
  cases hq : P.info? elem with
  | none => simp [hq] at hs
  | some i =>
    have hi : i.size = size := by simpa [hq] using hs
    rw [hn] at hl
    simp only [Nat.add_zero] at hst
    simp [Builtin.copy_, run_underlying hu, Builtin.lenOf, Builtin.firstCells, sizeOf, typeInfo, hq, hi, ← hk, hl, hst, goInt]
end Go.Proofs.Ytbpinkelcbcpjaa.Ni
