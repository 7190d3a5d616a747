/-
  The walks of cmp.Compare at ints and strings and of cmp.Or at three ints.
-/
import Derived.Test.YtbnlapickajiaaaGr
import Derived.Test.YtbnlapickajiaaaGuessP
import Derived.LoopN
import Derived.Sort.Walk0
namespace Go.Proofs.Ytbnlapickajiaaa.Gr
open Go.RowKit Go.Sort
set_option linter.unusedVariables false
set_option linter.unusedSimpArgs false

theorem isNaN_int (x : Int) (w : World) : Calls Try.prog 37 #[.int .i64 x] w fun e w' => e = .returned (.bool false) ∧ w' = w := by
  go_enter Try.func37, Try.ntmps37
  go_wp2_with fail
  go_ret
  exact ⟨rfl, rfl⟩
theorem compare_nat (x y : Nat) (w : World) : Calls Try.prog 22 #[.int .i64 (x : Int), .int .i64 (y : Int)] w fun e w' => e = .returned (.int .i64 (cmpI x y)) ∧ w = w' := by
  unfold cmpI
  by_cases q : x < y
  · have q' : (x : Int) < (y : Int) := by omega
    rw [if_pos q]
    clear q
    go_enter Try.func22, Try.ntmps22
    go_wp2_with fail
    refine (isNaN_int _ _).mono ?_
    rintro e w1 ⟨rfl, rfl⟩
    go_wp2_with fail
    refine (isNaN_int _ _).mono ?_
    rintro e w1 ⟨rfl, rfl⟩
    go_wp2_with fail
    go_ret
    exact ⟨rfl, rfl⟩
  · have q' : ¬ (x : Int) < (y : Int) := by omega
    rw [if_neg q]
    by_cases r : y < x
    · have r' : (y : Int) < (x : Int) := by omega
      rw [if_pos r]
      clear q r
      go_enter Try.func22, Try.ntmps22
      go_wp2_with fail
      refine (isNaN_int _ _).mono ?_
      rintro e w1 ⟨rfl, rfl⟩
      go_wp2_with fail
      refine (isNaN_int _ _).mono ?_
      rintro e w1 ⟨rfl, rfl⟩
      go_wp2_with fail
      go_ret
      exact ⟨rfl, rfl⟩
    · have r' : ¬ (y : Int) < (x : Int) := by omega
      rw [if_neg r]
      clear q r
      go_enter Try.func22, Try.ntmps22
      go_wp2_with fail
      refine (isNaN_int _ _).mono ?_
      rintro e w1 ⟨rfl, rfl⟩
      go_wp2_with fail
      refine (isNaN_int _ _).mono ?_
      rintro e w1 ⟨rfl, rfl⟩
      go_wp2_with fail
      go_ret
      exact ⟨rfl, rfl⟩
theorem isNaN_str (x : ByteArray) (w : World) : Calls Try.prog 38 #[.string x] w fun e w' => e = .returned (.bool false) ∧ w' = w := by
  go_enter Try.func38, Try.ntmps38
  go_wp2_with fail
  go_ret
  exact ⟨rfl, rfl⟩
theorem compare_str (x y : ByteArray) (w : World) : Calls Try.prog 23 #[.string x, .string y] w fun e w' => e = .returned (.int .i64 (cmpW x.toList y.toList)) ∧ w = w' := by
  unfold cmpW
  have e1 := bytesLess_eq x.toList y.toList
  have e2 := bytesLess_eq y.toList x.toList
  by_cases q : x.toList < y.toList
  · rw [decide_eq_true q] at e1
    rw [if_pos q]
    clear q e2
    go_enter Try.func23, Try.ntmps23
    go_wp2_with fail
    refine (isNaN_str _ _).mono ?_
    rintro e w1 ⟨rfl, rfl⟩
    go_wp2_with fail
    refine (isNaN_str _ _).mono ?_
    rintro e w1 ⟨rfl, rfl⟩
    go_wp2_with fail
    go_ret
    exact ⟨rfl, rfl⟩
  · rw [decide_eq_false q] at e1
    rw [if_neg q]
    by_cases r : y.toList < x.toList
    · rw [decide_eq_true r] at e2
      rw [if_pos r]
      have hne : (x.toList == y.toList) = false := by
        rw [beq_eq_false_iff_ne]; intro h; rw [h] at r; exact lt_irr _ r
      clear q r
      go_enter Try.func23, Try.ntmps23
      go_wp2_with fail
      refine (isNaN_str _ _).mono ?_
      rintro e w1 ⟨rfl, rfl⟩
      go_wp2_with fail
      refine (isNaN_str _ _).mono ?_
      rintro e w1 ⟨rfl, rfl⟩
      go_wp2_with fail
      go_ret
      exact ⟨rfl, rfl⟩
    · rw [decide_eq_false r] at e2
      rw [if_neg r]
      have heq : (x.toList == y.toList) = true := by
        rw [beq_iff_eq]; exact List.le_antisymm (List.not_lt.1 r) (List.not_lt.1 q)
      clear q r
      go_enter Try.func23, Try.ntmps23
      go_wp2_with fail
      refine (isNaN_str _ _).mono ?_
      rintro e w1 ⟨rfl, rfl⟩
      go_wp2_with fail
      refine (isNaN_str _ _).mono ?_
      rintro e w1 ⟨rfl, rfl⟩
      go_wp2_with fail
      go_ret
      exact ⟨rfl, rfl⟩
set_option maxRecDepth 100000 in
theorem or_three (g : Nat) (x y z : Int) (w : World) (h0 : w.cell? ⟨g, 0, none⟩ = some (.int .i64 x)) (h1 : w.cell? ⟨g, 1, none⟩ = some (.int .i64 y)) (h2 : w.cell? ⟨g, 2, none⟩ = some (.int .i64 z)) : Calls Try.prog 21 #[.slice (some ⟨g, 0, none⟩) 3 3] w fun e w' => e = .returned (.int .i64 (if x = 0 then (if y = 0 then z else y) else x)) ∧ w' = w := by
  by_cases hx : x = 0
  · subst hx
    rw [if_pos rfl]
    by_cases hy : y = 0
    · subst hy
      rw [if_pos rfl]
      by_cases hz : z = 0
      · subst hz
        go_enter Try.func21, Try.ntmps21
        go_wp2_with fail
        refine wp_loop_rounds 4 ?_
        rw [rounds_succ]
        go_wp2_with fail
        rw [rounds_succ]
        go_wp2_with fail
        rw [rounds_succ]
        go_wp2_with fail
        rw [rounds_succ]
        go_wp2_with fail
        go_ret
        exact ⟨rfl, rfl⟩
      · have hz' : (z == 0) = false := by simpa using hz
        go_enter Try.func21, Try.ntmps21
        go_wp2_with fail
        refine wp_loop_rounds 4 ?_
        rw [rounds_succ]
        go_wp2_with fail
        rw [rounds_succ]
        go_wp2_with fail
        rw [rounds_succ]
        go_wp2_with fail
        go_ret
        exact ⟨rfl, rfl⟩
    · rw [if_neg hy]
      have hy' : (y == 0) = false := by simpa using hy
      go_enter Try.func21, Try.ntmps21
      go_wp2_with fail
      refine wp_loop_rounds 3 ?_
      rw [rounds_succ]
      go_wp2_with fail
      rw [rounds_succ]
      go_wp2_with fail
      go_ret
      exact ⟨rfl, rfl⟩
  · rw [if_neg hx]
    have hx' : (x == 0) = false := by simpa using hx
    go_enter Try.func21, Try.ntmps21
    go_wp2_with fail
    refine wp_loop_rounds 3 ?_
    rw [rounds_succ]
    go_wp2_with fail
    go_ret
    exact ⟨rfl, rfl⟩
end Go.Proofs.Ytbnlapickajiaaa.Gr
