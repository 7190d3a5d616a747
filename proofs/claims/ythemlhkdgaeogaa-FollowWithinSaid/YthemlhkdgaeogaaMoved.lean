/-
  The walk of edit.Moved: where an offset is behind an edit. Conditions: all numbers are small. Nothing that was there is changed.
-/
import Derived.Test.YthemlhkdgaeogaaRunE
namespace Go.Proofs.Ythemlhkdgaeogaa
open Go.RowKit
set_option linter.unusedVariables false

def mv (p c n i : Nat) (right : Bool) : Nat :=
  if i < p then i else if (c = 0 ∧ p < i) ∨ (0 < c ∧ p + c ≤ i) then i + n - c else if right then p + n else p

set_option maxRecDepth 100000 in
set_option maxHeartbeats 2000000 in
theorem moved_any (p c : Nat) (put : ByteArray) (i : Nat) (right : Bool) (w : World) (hp : p ≤ 100000) (hc : c ≤ 100000) (hs : put.size ≤ 100000) (hi : i ≤ 100000) :
    Calls Try.prog 38 #[.agg #[.int .i64 p, .int .i64 c, .string put], .int .i64 i, .bool right] w fun e w' => e = .returned (.int .i64 (mv p c put.size i right)) ∧ Below w.heap.size w w' := by
  by_cases h1 : i < p
  · have H := Lib.hid (show mv p c put.size i right = i by simp [mv, h1])
    go_enter Try.func38, Try.ntmps38
    go_wp2
    go_ret
    exact ⟨ret_int (by rw [H.out]), (Below.refl _ _).alloc (Nat.le_refl _) _⟩
  · by_cases h2 : (c = 0 ∧ p < i) ∨ (0 < c ∧ p + c ≤ i)
    · have H := Lib.hid (show mv p c put.size i right = i + put.size - c by simp [mv, h1, h2])
      rcases h2 with ⟨rfl, h3⟩ | ⟨h3, h4⟩
      · go_enter Try.func38, Try.ntmps38
        go_wp2
        go_ret
        exact ⟨ret_int (by rw [H.out]; simp), (Below.refl _ _).alloc (Nat.le_refl _) _⟩
      · have hq : ((c : Int) == 0) = false := by simp; omega
        go_enter Try.func38, Try.ntmps38
        go_wp2
        go_ret
        exact ⟨ret_int (by rw [H.out]; omega), (Below.refl _ _).alloc (Nat.le_refl _) _⟩
    · have h5 : (c = 0 ∧ i = p) ∨ (0 < c ∧ i < p + c) := by omega
      rcases h5 with ⟨rfl, h3⟩ | ⟨h3, h4⟩
      · subst h3
        cases right
        · have H := Lib.hid (show mv i 0 put.size i false = i by simp [mv])
          go_enter Try.func38, Try.ntmps38
          go_wp2
          go_ret
          exact ⟨ret_int (by rw [H.out]), (Below.refl _ _).alloc (Nat.le_refl _) _⟩
        · have H := Lib.hid (show mv i 0 put.size i true = i + put.size by simp [mv])
          go_enter Try.func38, Try.ntmps38
          go_wp2
          go_ret
          exact ⟨ret_int (by rw [H.out]; simp), (Below.refl _ _).alloc (Nat.le_refl _) _⟩
      · have hq : ((c : Int) == 0) = false := by simp; omega
        cases right
        · have H := Lib.hid (show mv p c put.size i false = p by simp [mv, h1, h2])
          go_enter Try.func38, Try.ntmps38
          go_wp2
          go_ret
          exact ⟨ret_int (by rw [H.out]), (Below.refl _ _).alloc (Nat.le_refl _) _⟩
        · have H := Lib.hid (show mv p c put.size i true = p + put.size by simp [mv, h1, h2])
          go_enter Try.func38, Try.ntmps38
          go_wp2
          go_ret
          exact ⟨ret_int (by rw [H.out]; simp), (Below.refl _ _).alloc (Nat.le_refl _) _⟩
end Go.Proofs.Ythemlhkdgaeogaa
