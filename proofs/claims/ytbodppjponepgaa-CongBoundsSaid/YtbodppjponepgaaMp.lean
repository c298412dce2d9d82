import Derived.Test.YtbodppjponepgaaCg2
import Derived.MapFrom
namespace Go.Proofs.Ytbodppjponepgaa.Cg
open Go.RowKit Blk Go.MapKept
set_option linter.unusedVariables false

theorem get_new (W : World) (o : Obj) : (W.alloc o).heap[W.heap.size]? = some o := by
  show (W.heap.push o)[W.heap.size]? = _
  exact Array.getElem?_push_size
theorem push_set (h : Array Obj) (o o' : Obj) : (h.push o).setIfInBounds h.size o' = h.push o' := by
  apply Array.ext'
  simp [Array.toList_setIfInBounds]
theorem put_new (W : World) (es : Array MapEntry) (c : Nat) (k : Int) (F : Value) (h1 : Instr.findNow (.int .u8) (.int .u8 k) es.toList 0 = some none) :
    (Instr.mapUpdate 50 (.map (some W.heap.size)) (.int .u8 k) F).run Try.prog (W.alloc (.map es c)) = .ok () (W.alloc (.map (es.push { key := .int .u8 k, val := F, born := c }) (c + 1))) := by
  have hb := get_new W (.map es c)
  have hk : IsKey (.int .u8) (.int .u8 k) := rfl
  simp [Instr.mapUpdate, run_underlying Try.underlying50, Go.MapKept.run_getObj_map hb, run_checkKey Try.underlying5 hk, run_findKey Try.underlying5 h1, run_setObj_map _ hb, Result.andThen]
  show World.mk ((W.heap.push _).setIfInBounds W.heap.size _) _ _ _ _ = World.mk (W.heap.push _) _ _ _ _
  rw [push_set]
  rfl

def E1 (F0 : Value) : Array MapEntry := #[{ key := .int .u8 0, val := F0, born := 0 }]
def E2 (F0 F1 : Value) : Array MapEntry := #[{ key := .int .u8 0, val := F0, born := 0 }, { key := .int .u8 1, val := F1, born := 1 }]
def E3 (F0 F1 F2 : Value) : Array MapEntry := #[{ key := .int .u8 0, val := F0, born := 0 }, { key := .int .u8 1, val := F1, born := 1 }, { key := .int .u8 2, val := F2, born := 2 }]
theorem put0 (W : World) (r : Nat) (hr : W.heap.size = r) (F : Value) : (Instr.mapUpdate 50 (.map (some r)) (.int .u8 0) F).run Try.prog (W.alloc (.map #[] 0)) = .ok () (W.alloc (.map (E1 F) 1)) := hr ▸ put_new W #[] 0 0 F rfl
theorem put1 (W : World) (r : Nat) (hr : W.heap.size = r) (F G : Value) : (Instr.mapUpdate 50 (.map (some r)) (.int .u8 1) G).run Try.prog (W.alloc (.map (E1 F) 1)) = .ok () (W.alloc (.map (E2 F G) 2)) := hr ▸ put_new W (E1 F) 1 1 G (by rfl)
theorem put2 (W : World) (r : Nat) (hr : W.heap.size = r) (F G K : Value) : (Instr.mapUpdate 50 (.map (some r)) (.int .u8 2) K).run Try.prog (W.alloc (.map (E2 F G) 2)) = .ok () (W.alloc (.map (E3 F G K) 3)) := hr ▸ put_new W (E2 F G) 2 2 K (by rfl)
theorem look_new (W : World) (es : Array MapEntry) (c : Nat) (k : Int) (i : Nat) (F : Value) (h1 : Instr.findNow (.int .u8) (.int .u8 k) es.toList 0 = some (some (i, F))) :
    (Instr.lookup 50 (.map (some W.heap.size)) (.int .u8 k) false).run Try.prog (W.alloc (.map es c)) = .ok F (W.alloc (.map es c)) := by
  have hb := get_new W (.map es c)
  have hk : IsKey (.int .u8) (.int .u8 k) := rfl
  simp [Instr.lookup, run_underlying Try.underlying50, Go.MapKept.run_getObj_map hb, run_checkKey Try.underlying5 hk, run_findKey Try.underlying5 h1, Result.andThen]
theorem look0 (W : World) (r : Nat) (hr : W.heap.size = r) (F G K : Value) : (Instr.lookup 50 (.map (some r)) (.int .u8 0) false).run Try.prog (W.alloc (.map (E3 F G K) 3)) = .ok F (W.alloc (.map (E3 F G K) 3)) := hr ▸ look_new W _ _ 0 0 F (by rfl)
theorem look1 (W : World) (r : Nat) (hr : W.heap.size = r) (F G K : Value) : (Instr.lookup 50 (.map (some r)) (.int .u8 1) false).run Try.prog (W.alloc (.map (E3 F G K) 3)) = .ok G (W.alloc (.map (E3 F G K) 3)) := hr ▸ look_new W _ _ 1 1 G (by rfl)
theorem look2 (W : World) (r : Nat) (hr : W.heap.size = r) (F G K : Value) : (Instr.lookup 50 (.map (some r)) (.int .u8 2) false).run Try.prog (W.alloc (.map (E3 F G K) 3)) = .ok K (W.alloc (.map (E3 F G K) 3)) := hr ▸ look_new W _ _ 2 2 K (by rfl)
end Go.Proofs.Ytbodppjponepgaa.Cg
