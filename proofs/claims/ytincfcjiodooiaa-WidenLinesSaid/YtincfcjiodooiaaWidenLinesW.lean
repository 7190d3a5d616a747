/-
  The walk of the law WidenLines: whatever its input, it returns true and changes nothing that was there.
-/
import Derived.Test.YtincfcjiodooiaaWiden
namespace Go.Proofs.Ytincfcjiodooiaa
open Go.RowKit
set_option linter.unusedVariables false

theorem tlen (xs : List Int) (n : Nat) (s : ByteArray) (h : s.data.toList = (xs.take n).map letter) : s.size ≤ n := by
  have h2 : s.data.toList.length = s.size := by simp
  rw [← h2, h]; simp; omega
theorem two_wh (wh : Nat) (h : WHi ⟨#[97, 98]⟩ 1 wh) : wh = 2 := by
  rcases h with h | ⟨k, hk, h, h1, h2⟩
  · exact h
  · have hk' : k < 2 := hk
    have : k = 1 := by omega
    subst this
    exact absurd h2 (by show ¬ ((98 : UInt8) = 10); decide)
theorem widen_two (w : World) : Calls Try.prog 17 #[.string ⟨#[97, 98]⟩, .agg #[.int .i64 1, .int .i64 1]] w fun e w' => (∃ wl : Nat, e = .returned (.tuple #[.agg #[.int .i64 (wl : Int), .int .i64 2], .int .i64 0])) ∧ Below w.heap.size w w' :=
  (widen_any ⟨#[97, 98]⟩ 1 1 w (by decide) (by decide) (by decide)).mono fun e w' ⟨wl, wh, he, _, hh, hb⟩ => ⟨⟨wl, by rw [he, two_wh wh hh]; rfl⟩, hb⟩

set_option maxRecDepth 100000 in
set_option maxHeartbeats 4000000 in
theorem widenLines_walk (w : World) (v0 : Value) (l : List Int) (h0 : Row .i64 w v0 l) (a : Int) (ha : -9223372036854775808 ≤ a ∧ a ≤ 9223372036854775807) (b : Int) (hb : -9223372036854775808 ≤ b ∧ b ≤ 9223372036854775807) :
    Calls Try.prog 3 #[v0, .int .i64 a, .int .i64 b] w fun e w' => e = .returned (.bool true) ∧ Below w.heap.size w w' := by
  go_enter Try.func3, Try.ntmps3
  go_wp2_with fail
  refine (textOf_any v0 l 100 _ h0 (by omega) (by omega)).mono ?_
  rintro e w1 ⟨s, rfl, es0, rfl⟩
  have ss := tlen _ _ _ es0; clear es0 h0
  simp only [show Int.toNat 100 = 100 from rfl] at ss
  go_wp2_with fail
  refine (picked_any a ((s.size : Int) + 1) _ ha (by omega) (by omega)).mono ?_
  rintro e w' ⟨rfl, rfl⟩
  obtain ⟨lo, hlo, hlo2⟩ : ∃ lo : Nat, a % ((s.size : Int) + 1) = (lo : Int) ∧ lo ≤ s.size := by
    have h1 := Int.emod_nonneg a (show (s.size : Int) + 1 ≠ 0 by omega)
    have h2 := Int.emod_lt_of_pos a (show 0 < (s.size : Int) + 1 by omega)
    exact ⟨(a % ((s.size : Int) + 1)).toNat, by omega, by omega⟩
  rw [hlo]
  clear hlo
  go_wp2_with fail
  refine (picked_any b ((s.size : Int) - (lo : Int) + 1) _ hb (by omega) (by omega)).mono ?_
  rintro e w' ⟨rfl, rfl⟩
  obtain ⟨dd, hdd, hd2⟩ : ∃ dd : Nat, b % ((s.size : Int) - (lo : Int) + 1) = (dd : Int) ∧ lo + dd ≤ s.size := by
    have h1 := Int.emod_nonneg b (show (s.size : Int) - (lo : Int) + 1 ≠ 0 by omega)
    have h2 := Int.emod_lt_of_pos b (show 0 < (s.size : Int) - (lo : Int) + 1 by omega)
    exact ⟨(b % ((s.size : Int) - (lo : Int) + 1)).toNat, by omega, by omega⟩
  rw [hdd]
  clear hdd
  have WI := Lib.hid (fun W => widen_any s lo (lo + dd) W (by omega) (by omega) hd2)
  have A1 := Lib.hid (Two.new w (.int .i64 lo) (.int .i64 ((lo : Int) + (dd : Int))) 26)
  have k1 := (Below.refl w.heap.size w).alloc (Nat.le_refl _) (Obj.cells #[.int .i64 lo, .int .i64 ((lo : Int) + (dd : Int))] 26)
  go_wp2_with fail
  generalize w.alloc (Obj.cells #[.int .i64 lo, .int .i64 ((lo : Int) + (dd : Int))] 26) = V1 at *
  refine (WI.out _).mono ?_
  rintro e w2 ⟨wl, wh, rfl, HL, HH, hb2⟩
  have A2 := A1.out.later hb2
  have k2 := bstep k1 hb2
  clear hb2 k1 A1
  have A3 := A2.alloc (Obj.cells #[.int .i64 wl, .int .i64 wh] 26)
  have B3 := Two.new w2 (.int .i64 wl) (.int .i64 wh) 26
  replace k2 := k2.alloc k2.size (Obj.cells #[.int .i64 wl, .int .i64 wh] 26)
  clear A2
  go_wp2_with fail
  generalize w2.alloc (Obj.cells #[.int .i64 wl, .int .i64 wh] 26) = V3 at *
  refine (widen_two _).mono ?_
  rintro e w4 ⟨⟨wq, rfl⟩, hb4⟩
  have A4 := (A3.later hb4).alloc (Obj.cells #[.int .i64 wq, .int .i64 2] 26)
  have B4 := (B3.later hb4).alloc (Obj.cells #[.int .i64 wq, .int .i64 2] 26)
  have C4 := Two.new w4 (.int .i64 wq) (.int .i64 2) 26
  have k4 := bstep k2 hb4
  replace k4 := k4.alloc k4.size (Obj.cells #[.int .i64 wq, .int .i64 2] 26)
  clear hb4 k2 A3 B3 WI
  obtain ⟨ga, a0, a1⟩ := A4
  obtain ⟨gb, b0, b1⟩ := B4
  obtain ⟨gc, c0, c1⟩ := C4
  have wll : wl ≤ lo := by rcases HL with h | ⟨k, hk, h, _⟩ <;> omega
  have whh : lo + dd ≤ wh ∧ wh ≤ s.size := by rcases HH with h | ⟨k, hk, h, _⟩ <;> omega
  obtain ⟨wh1, wh2⟩ := whh
  have d1 : decide (lo < wl) = false := by simp; omega
  have d2 : decide ((wh : Int) < (lo : Int) + (dd : Int)) = false := by simp; omega
  have d3 : decide (s.size < wh) = false := by simp; omega
  rcases HL with rfl | ⟨k, hk, rfl, _, hk10⟩
  · rcases HH with rfl | ⟨j, hj, rfl, _, hj10⟩
    · go_wp2_with fail
      go_ret
      exact ⟨rfl, k4⟩
    · have t2 : (s[j].toNat : Int) = 10 := by rw [hj10]; rfl
      have f3 : decide ((0 : Int) < ((j + 1 : Nat) : Int)) = true := by simp only [decide_eq_true_eq]; omega
      clear hj10
      by_cases hjs : j + 1 = s.size
      · have HJ := Lib.hid hjs
        have hjs' : ((j : Int) + 1 == (s.size : Int)) = true := by simp; omega
        clear hjs
        go_wp2_with fail
        go_ret
        exact ⟨rfl, k4⟩
      · have hjs' : ((j : Int) + 1 == (s.size : Int)) = false := by simp; omega
        clear hjs
        go_wp2_with fail
        go_ret
        exact ⟨rfl, k4⟩
  · have t1 : (s[k].toNat : Int) = 10 := by rw [hk10]; rfl
    have f1 : (((k + 1 : Nat) : Int) == 0) = false := by simp; omega
    rcases HH with rfl | ⟨j, hj, rfl, _, hj10⟩
    · go_wp2_with fail
      go_ret
      exact ⟨rfl, k4⟩
    · have t2 : (s[j].toNat : Int) = 10 := by rw [hj10]; rfl
      have f3 : decide ((0 : Int) < ((j + 1 : Nat) : Int)) = true := by simp only [decide_eq_true_eq]; omega
      clear hj10
      by_cases hjs : j + 1 = s.size
      · have hjs' : ((j : Int) + 1 == (s.size : Int)) = true := by simp; omega
        clear hjs
        go_wp2_with fail
        go_ret
        exact ⟨rfl, k4⟩
      · have hjs' : ((j : Int) + 1 == (s.size : Int)) = false := by simp; omega
        clear hjs
        go_wp2_with fail
        go_ret
        exact ⟨rfl, k4⟩
end Go.Proofs.Ytincfcjiodooiaa
