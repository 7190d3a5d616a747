/-
  The map of sides: one entry, laid and looked up.
-/
import Derived.Test.YtpjpckhmjonehaaBase
import Derived.WideMake
import Derived.Carry
namespace Go.Proofs.Ytpjpckhmjonehaa
open Go.RowKit
set_option linter.unusedVariables false
set_option linter.unusedSimpArgs false

theorem push_set (a : Array Obj) (x y : Obj) : (a.push x).setIfInBounds a.size y = a.push y := by
  apply Array.ext_getElem?
  intro i
  rw [Array.getElem?_setIfInBounds, Array.getElem?_push, Array.getElem?_push]
  by_cases h : a.size = i
  · subst h; simp
  · rw [if_neg h, if_neg (fun e => h e.symm), if_neg (fun e => h e.symm)]
def sideObj : Obj := .map #[{ key := .bool true, val := .int .i64 1, born := 0 }] 1
theorem side_put (W : World) : (Instr.mapUpdate 35 (.map (some W.heap.size)) (.bool true) (.int .i64 1)).run Try.prog (W.alloc (.map #[] 0)) = .ok () (W.alloc sideObj) := by
  have hb : (W.alloc (.map #[] 0)).heap[W.heap.size]? = some (.map #[] 0) := heap_alloc_new W _
  have hf : Instr.findNow .bool (.bool true) ([] : List MapEntry) 0 = some none := rfl
  have hc : (Instr.checkKey false 10000 4 (.bool true)).run Try.prog (W.alloc (.map #[] 0)) = .ok () (W.alloc (.map #[] 0)) := MapKept.run_checkKey (k := .bool true) Try.underlying4 (by simp [MapKept.IsKey]) false 9999
  simp [Instr.mapUpdate, run_underlying Try.underlying35, MapKept.run_getObj_map hb, hc, MapKept.run_findKey Try.underlying4 hf, MapKept.run_setObj_map _ hb, Result.andThen]
  have e : (W.alloc (.map #[] 0)).heap.setIfInBounds W.heap.size (.map #[{ key := .bool true, val := .int .i64 1, born := 0 }] 1) = (W.alloc sideObj).heap := push_set W.heap _ _
  rw [e]
  rfl
theorem side_look (W : World) (m : Nat) (h : W.heap[m]? = some sideObj) (b : Bool) : (Instr.lookup 35 (.map (some m)) (.bool b) false).run Try.prog W = .ok (.int .i64 (if b then 1 else 0)) W := by
  unfold sideObj at h
  have hc : ∀ e, (Instr.checkKey e 10000 4 (.bool b)).run Try.prog W = .ok () W := fun e => MapKept.run_checkKey (k := .bool b) Try.underlying4 (by simp [MapKept.IsKey]) e 9999
  cases b
  · have hf : Instr.findNow .bool (.bool false) ([{ key := .bool true, val := .int .i64 1, born := 0 }] : List MapEntry) 0 = some none := rfl
    simp [Instr.lookup, run_underlying Try.underlying35, MapKept.run_getObj_map h, hc, MapKept.run_findKey Try.underlying4 hf, Result.andThen, Try.zeroValue3]
  · have hf : Instr.findNow .bool (.bool true) ([{ key := .bool true, val := .int .i64 1, born := 0 }] : List MapEntry) 0 = some (some (0, .int .i64 1)) := rfl
    simp [Instr.lookup, run_underlying Try.underlying35, MapKept.run_getObj_map h, hc, MapKept.run_findKey Try.underlying4 hf, Result.andThen]
end Go.Proofs.Ytpjpckhmjonehaa
