/-
  The walks of poly.May and poly.Join at hashes of texts: May says true, Join gives the hash of the concatenation. Nothing that was there is changed.
-/
import Derived.Test.YtddbhoilhapljaaPoly
namespace Go.Proofs.Ytddbhoilhapljaa
open Go.RowKit
set_option linter.unusedVariables false

def hval (l : List UInt8) : Value := .agg #[.int .i64 (hv l), .int .i64 (hs l)]

set_option maxHeartbeats 400000 in
theorem May_of (l : List UInt8) (w : World) :
    Calls Try.prog 124 #[.agg #[.int .i64 (hv l), .int .i64 (hs l)]] w fun e w' => e = .returned (.bool true) ∧ Below w.heap.size w w' := by
  have b1 := hv_bd l
  have b2 := hs_bd l
  have b3 := hs_pos l
  generalize hv l = x at *
  generalize hs l = y at *
  go_enter Try.func124, Try.ntmps124
  go_wp2
  go_ret
  exact ⟨rfl, (Below.refl _ _).alloc (Nat.le_refl _) _⟩

set_option maxHeartbeats 400000 in
theorem Join_of (l m : List UInt8) (w : World) :
    Calls Try.prog 123 #[.agg #[.int .i64 (hv l), .int .i64 (hs l)], .agg #[.int .i64 (hv m), .int .i64 (hs m)]] w fun e w' => e = .returned (.tuple #[.agg #[.int .i64 (hv (l ++ m)), .int .i64 (hs (l ++ m))], .int .i64 0]) ∧ Below w.heap.size w w' := by
  have m1 := May_of l
  have m2 := May_of m
  have b1 := hv_bd l
  have b2 := hs_bd l
  have b3 := hv_bd m
  have b4 := hs_bd m
  have H1 := Lib.hid (hv_append l m)
  have H2 := Lib.hid (hs_append l m)
  generalize hv l = x at *
  generalize hs l = y at *
  generalize hv m = x2 at *
  generalize hs m = y2 at *
  have M1 := Lib.hid m1
  have M2 := Lib.hid m2
  clear m1 m2
  have n1 : 0 ≤ x * y2 := Int.mul_nonneg (by omega) (by omega)
  have n2 : x * y2 ≤ 2147483647 * 2147483647 := Int.mul_le_mul (by omega) (by omega) (by omega) (by omega)
  have n3 : 0 ≤ y * y2 := Int.mul_nonneg (by omega) (by omega)
  have n4 : y * y2 ≤ 2147483647 * 2147483647 := Int.mul_le_mul (by omega) (by omega) (by omega) (by omega)
  go_enter Try.func123, Try.ntmps123
  go_wp2_with fail
  refine (M1.out _).mono ?_
  rintro e w1 ⟨rfl, hb1⟩
  obtain ⟨hc1, hf1⟩ := bcell hb1
  obtain ⟨z10, z11, z12⟩ : w.heap.size < w1.heap.size ∧ w.heap.size + 1 < w1.heap.size ∧ w.heap.size + 1 + 1 < w1.heap.size := by have := hb1.size; simp at this; omega
  go_wp2_with fail
  refine (M2.out _).mono ?_
  rintro e w2 ⟨rfl, hb2⟩
  obtain ⟨hc2, hf2⟩ := bcell hb2
  obtain ⟨z20, z21, z22⟩ : w.heap.size < w2.heap.size ∧ w.heap.size + 1 < w2.heap.size ∧ w.heap.size + 1 + 1 < w2.heap.size := by have := hb2.size; omega
  go_wp2_with fail
  refine bodyPost_ret (v := .tuple #[.agg #[.int .i64 ((x * y2 + x2) % 2147483647), .int .i64 (y * y2 % 2147483647)], .int .i64 0]) (by simp [results, Try.results123, go_sem, hc2, hc1, z12]) rfl ⟨by rw [H1.out, H2.out], ?_⟩
  exact ((bstep (bstep ((((Below.refl _ _).alloc (Nat.le_refl _) _).alloc (by simp) _).alloc (by simp; omega) _) hb1) hb2).setCell (by simp; omega) _).setCell (by simp; omega) _
end Go.Proofs.Ytddbhoilhapljaa
