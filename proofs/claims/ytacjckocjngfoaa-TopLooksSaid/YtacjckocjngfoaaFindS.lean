/-
  The walk of findSure.
-/
import Derived.Test.YtacjckocjngfoaaFind
import Derived.Test.YtacjckocjngfoaaFew
namespace Go.Proofs.Ytacjckocjngfoaa
open Go.RowKit Fnd
set_option linter.unusedVariables false

theorem occ_sure : occ ⟨#[97, 97, 97]⟩ ⟨#[97, 97]⟩ = [0, 1] := by decide +kernel
set_option maxHeartbeats 1000000 in
theorem findSure_any (w : World) :
    Calls Try.prog 7 #[] w fun e w' => e = .returned (.bool true) ∧ Below w.heap.size w w' := by
  go_enter Try.func7, Try.ntmps7
  go_wp2_with fail
  refine (all_any ⟨#[97, 97, 97]⟩ ⟨#[97, 97]⟩ _ (by decide) (by decide) (by decide)).mono ?_
  rintro e w1 ⟨v, rfl, hr, hb⟩
  rw [occ_sure] at hr
  have hr2 := hr.later ((Below.refl w1.heap.size w1).alloc (Nat.le_refl _) (.cells #[.int .i64 0, .int .i64 1] 3))
  have hl := Row.lit w1 3 .i64 [0, 1] (by decide) (by intro x hx; simp at hx; rcases hx with rfl | rfl <;> exact wfi2 _ (by omega))
  have S := Lib.hid (sameInts_any v _ (natI [0, 1]) [0, 1] _ hr2 hl)
  rw [show decide (natI [0, 1] = [0, 1]) = true by decide] at S
  clear hr hr2 hl
  go_wp2_with fail
  refine (S.out).mono ?_
  rintro e w2 ⟨rfl, hb2⟩
  go_wp2_with fail
  go_ret
  exact ⟨rfl, bstep hb (bstep_alloc hb2)⟩
end Go.Proofs.Ytacjckocjngfoaa
