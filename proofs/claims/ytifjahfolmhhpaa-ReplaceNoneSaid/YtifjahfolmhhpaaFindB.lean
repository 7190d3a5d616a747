/-
  The walks of find.Border and findSure. Nothing that was there is changed.
-/
import Derived.Test.YtifjahfolmhhpaaFind
import Derived.Test.YtifjahfolmhhpaaFew
namespace Go.Proofs.Ytifjahfolmhhpaa
open Go.RowKit Fnd
set_option linter.unusedVariables false

def BorderEPost (s : ByteArray) (w : World) (e : Ending) (w' : World) : Prop := ∃ (v : Value) (bs : List Nat), e = .returned (.tuple #[v, .int .i64 0]) ∧ Row .i64 w' v (natI bs) ∧ bs.length = s.size ∧ (∀ j, j < s.size → Mx (bf s) (j + 1) (bs.getD j 0)) ∧ Below w.heap.size w w'
set_option maxHeartbeats 1000000 in
theorem Border_any (s : ByteArray) (w : World) (h0 : 0 < s.size) (hs : s.size ≤ 600) :
    Calls Try.prog 26 #[.string s] w (BorderEPost s w) := by
  have h1 : decide ((600 : Int) < (s.size : Int)) = false := by simp; omega
  go_enter Try.func26, Try.ntmps26
  go_wp2_with fail
  refine (border_any s _ h0 (by omega)).mono ?_
  rintro e w1 ⟨v, bs, rfl, h2, h3, h4, h5⟩
  go_wp2_with fail
  go_ret2
  exact ⟨v, bs, rfl, h2, h3, h4, h5⟩
theorem occ_sure : occ ⟨#[97, 97, 97]⟩ ⟨#[97, 97]⟩ = [0, 1] := by decide +kernel
set_option maxHeartbeats 1000000 in
theorem findSure_any (w : World) :
    Calls Try.prog 25 #[] w fun e w' => e = .returned (.bool true) ∧ Below w.heap.size w w' := by
  go_enter Try.func25, Try.ntmps25
  go_wp2_with fail
  refine (all_any ⟨#[97, 97, 97]⟩ ⟨#[97, 97]⟩ _ (by decide) (by decide) (by decide)).mono ?_
  rintro e w1 ⟨v, rfl, hr, hb⟩
  rw [occ_sure] at hr
  have hr2 := hr.later ((Below.refl w1.heap.size w1).alloc (Nat.le_refl _) (.cells #[.int .i64 0, .int .i64 1] 3))
  have hl := Row.lit w1 3 .i64 [0, 1] (by decide) (by intro x hx; simp at hx; rcases hx with rfl | rfl <;> exact wfi2 _ (by omega))
  have S := Lib.hid (sameInts_any v _ (natI [0, 1]) [0, 1] _ hr2 hl)
  rw [show decide (natI [0, 1] = [0, 1]) = true by decide] at S
  clear hr hr2 hl
  go_wp2_with fail
  refine (S.out).mono ?_
  rintro e w2 ⟨rfl, hb2⟩
  go_wp2_with fail
  go_ret
  exact ⟨rfl, bstep hb (bstep_alloc hb2)⟩
end Go.Proofs.Ytifjahfolmhhpaa
