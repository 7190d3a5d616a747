/-
  The walk of edit.Place: where an offset is behind an edit. Conditions: all numbers are small. Nothing that was there is changed.
-/
import Derived.Test.YthemlhkdgaeogaaMoved
import Derived.LoopN
namespace Go.Proofs.Ythemlhkdgaeogaa
open Go.RowKit
set_option linter.unusedVariables false

set_option maxRecDepth 100000 in
set_option maxHeartbeats 2000000 in
theorem place_any (p c : Nat) (put : ByteArray) (i : Nat) (right : Bool) (w : World) (hp : p ≤ 100000) (hc : c ≤ 100000) (hs : put.size ≤ 100000) (hi : i ≤ 100000) :
    Calls Try.prog 18 #[.agg #[.int .i64 p, .int .i64 c, .string put], .int .i64 i, .bool right] w fun e w' => e = .returned (.tuple #[.int .i64 (mv p c put.size i right), .int .i64 0]) ∧ Below w.heap.size w w' := by
  have i0 : ∀ W, (Instr.index 80 (.agg #[.int .i64 p, .int .i64 c, .int .i64 i]) (.int .i64 0)).run Try.prog W = .ok (.int .i64 p) W := fun _ => by kernel_rfl
  have i1 : ∀ W, (Instr.index 80 (.agg #[.int .i64 p, .int .i64 c, .int .i64 i]) (.int .i64 1)).run Try.prog W = .ok (.int .i64 c) W := fun _ => by kernel_rfl
  have i2 : ∀ W, (Instr.index 80 (.agg #[.int .i64 p, .int .i64 c, .int .i64 i]) (.int .i64 2)).run Try.prog W = .ok (.int .i64 i) W := fun _ => by kernel_rfl
  go_enter Try.func18, Try.ntmps18
  go_wp2_with fail
  refine wp_loop_rounds 4 ?_
  rw [rounds_succ]
  go_wp2_with fail
  rw [rounds_succ]
  go_wp2_with fail
  rw [rounds_succ]
  go_wp2_with fail
  rw [rounds_succ]
  go_wp2_with fail
  go_goals
  refine (moved_any p c put i right _ hp hc hs hi).mono ?_
  rintro e w1 ⟨rfl, hb1⟩
  go_wp2_with fail
  go_ret2
  exact ⟨rfl, bstep_alloc hb1⟩
end Go.Proofs.Ythemlhkdgaeogaa
