/-
  The walk of Picked: a modulo n. Nothing in memory is changed.
-/
import Derived.Test.YtpjpckhmjonehaaDoorOpen
import Derived.Handy
namespace Go.Proofs.YtpjpckhmjonehaaDoor
open Go.RowKit
set_option linter.unusedVariables false

theorem tmod_neg (a n : Int) (hn : 0 < n) (h : a.tmod n < 0) : a.tmod n + n = a % n := by
  have h1 := Int.emod_nonneg a (Int.ne_of_gt hn)
  have h2 := Int.emod_lt_of_pos a hn
  rw [Int.tmod_eq_emod] at *
  split at h <;> rename_i hh
  · omega
  · rw [if_neg hh]; omega
theorem tmod_pos (a n : Int) (hn : 0 < n) (h : ¬ a.tmod n < 0) : a.tmod n = a % n := by
  have h1 := Int.emod_nonneg a (Int.ne_of_gt hn)
  have h2 := Int.emod_lt_of_pos a hn
  rw [Int.tmod_eq_emod] at *
  split at h <;> rename_i hh
  · rw [if_pos hh]; omega
  · omega

set_option maxHeartbeats 400000 in
theorem picked_any (a n : Int) (w : World) (ha : -9223372036854775808 ≤ a ∧ a ≤ 9223372036854775807) (hn : 0 < n) (hn2 : n ≤ 4611686018427387904) :
    Calls Tryd.prog 8 #[.int .i64 a, .int .i64 n] w fun e w' => e = .returned (.int .i64 (a % n)) ∧ w = w' := by
  have hd : (n == 0) = false := by simp; omega
  by_cases h : a.tmod n < 0
  · have h3 : -n ≤ a.tmod n := by
      have h1 := Int.emod_nonneg a (Int.ne_of_gt hn)
      have := tmod_neg a n hn h
      omega
    have H := Lib.hid (tmod_neg a n hn h)
    go_enter Tryd.func8, Tryd.ntmps8
    go_wp2
    go_ret
    exact ⟨ret_int H.out, rfl⟩
  · have H := Lib.hid (tmod_pos a n hn h)
    go_enter Tryd.func8, Tryd.ntmps8
    go_wp2
    go_ret
    exact ⟨ret_int H.out, rfl⟩

theorem int_info : (Tryd.prog.info? 3).map (fun i => (i.zero, i.size, i.bytes)) = some (some (.int .i64 0), 1, 8) := by kernel_rfl
end Go.Proofs.YtpjpckhmjonehaaDoor
