/-
  The walks of cmp.Compare at ints.
-/
import Derived.Test.YtpjpckhmjonehaaGr
import Derived.Test.YtpjpckhmjonehaaGuessP
import Derived.LoopN
import Derived.Sort.Walk0
namespace Go.Proofs.Ytpjpckhmjonehaa.Gr
open Go.RowKit Go.Sort
set_option linter.unusedVariables false
set_option linter.unusedSimpArgs false

theorem isNaN_int (x : Int) (w : World) : Calls Try.prog 13 #[.int .i64 x] w fun e w' => e = .returned (.bool false) ∧ w' = w := by
  go_enter Try.func13, Try.ntmps13
  go_wp2_with fail
  go_ret
  exact ⟨rfl, rfl⟩
theorem compare_nat (x y : Nat) (w : World) : Calls Try.prog 11 #[.int .i64 (x : Int), .int .i64 (y : Int)] w fun e w' => e = .returned (.int .i64 (cmpI x y)) ∧ w = w' := by
  unfold cmpI
  by_cases q : x < y
  · have q' : (x : Int) < (y : Int) := by omega
    rw [if_pos q]
    clear q
    go_enter Try.func11, Try.ntmps11
    go_wp2_with fail
    refine (isNaN_int _ _).mono ?_
    rintro e w1 ⟨rfl, rfl⟩
    go_wp2_with fail
    refine (isNaN_int _ _).mono ?_
    rintro e w1 ⟨rfl, rfl⟩
    go_wp2_with fail
    go_ret
    exact ⟨rfl, rfl⟩
  · have q' : ¬ (x : Int) < (y : Int) := by omega
    rw [if_neg q]
    by_cases r : y < x
    · have r' : (y : Int) < (x : Int) := by omega
      rw [if_pos r]
      clear q r
      go_enter Try.func11, Try.ntmps11
      go_wp2_with fail
      refine (isNaN_int _ _).mono ?_
      rintro e w1 ⟨rfl, rfl⟩
      go_wp2_with fail
      refine (isNaN_int _ _).mono ?_
      rintro e w1 ⟨rfl, rfl⟩
      go_wp2_with fail
      go_ret
      exact ⟨rfl, rfl⟩
    · have r' : ¬ (y : Int) < (x : Int) := by omega
      rw [if_neg r]
      clear q r
      go_enter Try.func11, Try.ntmps11
      go_wp2_with fail
      refine (isNaN_int _ _).mono ?_
      rintro e w1 ⟨rfl, rfl⟩
      go_wp2_with fail
      refine (isNaN_int _ _).mono ?_
      rintro e w1 ⟨rfl, rfl⟩
      go_wp2_with fail
      go_ret
      exact ⟨rfl, rfl⟩
end Go.Proofs.Ytpjpckhmjonehaa.Gr
