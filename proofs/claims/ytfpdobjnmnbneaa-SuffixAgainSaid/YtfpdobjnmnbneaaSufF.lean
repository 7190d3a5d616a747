/-
  The walks of suffix.Sort and suffix.Common.
-/
import Derived.Test.YtfpdobjnmnbneaaSufE
import Derived.Test.YtfpdobjnmnbneaaKas
namespace Go.Proofs.Ytfpdobjnmnbneaa
open Go.RowKit
set_option linter.unusedVariables false
set_option linter.unusedSimpArgs false

theorem sufFault_ok (s : ByteArray) (hs : s.size ≤ 600) (w : World) : Calls Try.prog 33 #[.string s] w fun e w' => e = .returned (.int .i64 0) ∧ w' = w := by
  have h : decide ((600 : Int) < (s.size : Int)) = false := decide_eq_false (by omega)
  have h2 : ¬ ((600 : Int) < (s.size : Int)) := by omega
  have h3 : ¬ (600 < s.size) := by omega
  have h4 : decide (600 < s.size) = false := decide_eq_false (by omega)
  go_enter Try.func33, Try.ntmps33
  go_wp2_with fail
  go_ret
  exact ⟨rfl, rfl⟩
def SortPost2 (S : List UInt8) (n : Nat) (w : World) (e : Ending) (w' : World) : Prop := ∃ (g : Nat) (o p : Nat → Nat), e = .returned (.tuple #[.slice (some ⟨g, 0, none⟩) n n, .int .i64 0]) ∧ w.heap.size ≤ g ∧ EndsUp S n o p ∧ w'.rowIs g 3 n (fun k => .int .i64 (o k : Int)) ∧ Below w.heap.size w w'
theorem sufSort2_any (s : ByteArray) (hs : s.size ≤ 600) (w : World) : Calls Try.prog 15 #[.string s] w (SortPost2 s.data.toList s.size w) := by
  have FK := Lib.hid (fun W => sufFault_ok s hs W)
  have SA := Lib.hid (fun W => sortedA_any s (by omega) W)
  go_enter Try.func15, Try.ntmps15
  go_wp2_with fail
  refine (FK.out _).mono ?_
  rintro e w1 ⟨rfl, rfl⟩
  go_wp2_with fail
  refine (SA.out _).mono ?_
  rintro e w2 ⟨g, o, p, rfl, hg, HE, RG, HB⟩
  go_wp2_with fail
  go_ret2
  exact ⟨g, o, p, rfl, hg, HE, RG, HB⟩
def CommonPost2 (S : List UInt8) (n : Nat) (w : World) (e : Ending) (w' : World) : Prop := ∃ (g : Nat) (o p : Nat → Nat), e = .returned (.tuple #[.slice (some ⟨g, 0, none⟩) n n, .int .i64 0]) ∧ w.heap.size ≤ g ∧ EndsUp S n o p ∧ w'.rowIs g 3 n (fun k => .int .i64 (cmn S o k : Int)) ∧ Below w.heap.size w w'
theorem sufCommon2_any (s : ByteArray) (hs : s.size ≤ 600) (w : World) : Calls Try.prog 16 #[.string s] w (CommonPost2 s.data.toList s.size w) := by
  have FK := Lib.hid (fun W => sufFault_ok s hs W)
  have SA := Lib.hid (fun W => sortedA_any s (by omega) W)
  go_enter Try.func16, Try.ntmps16
  go_wp2_with fail
  refine (FK.out _).mono ?_
  rintro e w1 ⟨rfl, rfl⟩
  go_wp2_with fail
  refine (SA.out _).mono ?_
  rintro e w2 ⟨g, o, p, rfl, hg, HE, RG, HB⟩
  go_wp2_with fail
  refine (common_any s (by omega) g o p HE _ RG).mono ?_
  rintro e w3 ⟨h, rfl, hh, RH, HB2⟩
  go_wp2_with fail
  go_ret2
  exact ⟨h, o, p, rfl, by have := HB.size; omega, HE, RH, bstep HB HB2⟩
end Go.Proofs.Ytfpdobjnmnbneaa
