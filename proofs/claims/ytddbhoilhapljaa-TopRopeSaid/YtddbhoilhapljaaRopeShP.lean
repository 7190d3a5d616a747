/-
  The plain law of RopeShallow: what the rounds make of the operations.
-/
import Derived.Test.YtddbhoilhapljaaRopeH
namespace Go.Proofs.Ytddbhoilhapljaa
open Go.RowKit
set_option linter.unusedVariables false

/-- Behind k rounds: so many operations, and a text of so many bytes at now. -/
structure ShI (k : Nat) (os : List Ro) (now size : Nat) : Prop where
  len : os.length = 3 + k
  vld : vldT [] os
  cnt : (runT [] os).1.length = 3 + k
  one : ((runT [] os).1.getD 1 []).length = 1
  two : ((runT [] os).1.getD 2 []).length = 3
  now_ : now < 3 + k
  is_ : ((runT [] os).1.getD now []).length = size
  le : size ≤ 3 * k
  ge : k ≤ size
def shOps : List Ro := [⟨1, ⟨#[]⟩, 0, 0, 0, 0⟩, ⟨1, ⟨#[97]⟩, 0, 0, 0, 0⟩, ⟨1, ⟨#[10, 98, 99]⟩, 0, 0, 0, 0⟩]
theorem shOps_run : runT [] shOps = ([[], [97], [10, 98, 99]], [0, 0, 0]) := by
  simp [runT, stepT, shOps, rlen, rres, ByteArray.size]
theorem shI_zero : ShI 0 shOps 0 0 := by
  have hv : vldT [] shOps := by
    simp [vldT, rok, shOps, stepT, rlen, rres, lens, ByteArray.size]
  exact ⟨rfl, hv, by rw [shOps_run]; rfl, by rw [shOps_run]; rfl, by rw [shOps_run]; rfl, by decide, by rw [shOps_run]; rfl, by decide, by decide⟩
theorem lens_getD (ts : List (List UInt8)) (i : Nat) : (lens ts).getD i 0 = (ts.getD i []).length := by
  rw [List.getD_eq_getElem?_getD, List.getD_eq_getElem?_getD, lens, List.getElem?_map]
  cases ts[i]? <;> rfl
theorem shI_step {k : Nat} {os : List Ro} {now size : Nat} (h : ShI k os now size) (hk : k < 50) (x a b : Nat) (hx : x = 1 ∨ x = 2) (hab : (a = now ∧ b = x) ∨ (a = x ∧ b = now)) (c : Nat) (hc : c = if x = 1 then 1 else 3) :
    ShI (k + 1) (os ++ [⟨2, ⟨#[]⟩, a, b, 0, 0⟩]) (k + 3) (size + c) := by
  obtain ⟨h1, h2, h3, h4, h5, h6, h7, h8, h9⟩ := h
  generalize hts : (runT [] os).1 = ts at *
  have hxl : (ts.getD x []).length = c := by
    rcases hx with rfl | rfl
    · rw [h4, hc]; rfl
    · rw [h5, hc]; rfl
  have hsum : ((ts.getD a []).length + (ts.getD b []).length) = size + c := by
    rcases hab with ⟨rfl, rfl⟩ | ⟨rfl, rfl⟩
    · rw [h7, hxl]
    · rw [h7, hxl]; omega
  have hc3 : c ≤ 3 ∧ 1 ≤ c := by split at hc <;> omega
  have hst : stepT ts ⟨2, ⟨#[]⟩, a, b, 0, 0⟩ = (ts ++ [ts.getD a [] ++ ts.getD b []], 0) := by
    unfold stepT
    rw [if_pos (by show (lens ts).getD a 0 + (lens ts).getD b 0 ≤ 600; rw [lens_getD, lens_getD]; omega)]
    rfl
  have hrun : (runT [] (os ++ [⟨2, ⟨#[]⟩, a, b, 0, 0⟩])).1 = ts ++ [ts.getD a [] ++ ts.getD b []] := by
    rw [runT_append, hts]; simp only [runT, hst]
  have hlow : ∀ i, i < 3 + k → ((ts ++ [ts.getD a [] ++ ts.getD b []]).getD i []) = ts.getD i [] := fun i hi => by
    rw [List.getD_eq_getElem?_getD, List.getElem?_append_left (by omega), List.getD_eq_getElem?_getD]
  refine ⟨by rw [List.length_append, h1]; simp; omega, ?_, by rw [hrun, List.length_append, h3]; simp; omega, ?_, ?_, by omega, ?_, by omega, by omega⟩
  · rw [vldT_append, hts]
    refine ⟨h2, ?_, trivial⟩
    have hll : (lens ts).length = 3 + k := by rw [lens, List.length_map, h3]
    have h0 : (⟨#[]⟩ : ByteArray).size = 0 := rfl
    refine ⟨show 1 ≤ 2 by decide, show 2 ≤ 5 by decide, fun _ => ?_, fun _ => ?_, fun h => ?_, fun h => ?_, ?_, ?_, ?_, show 0 ≤ 600 by decide, show 0 ≤ 100 by decide, ?_⟩
    · rw [hll]; show a < _; omega
    · rw [hll]; show b < _; omega
    · exact absurd h (show ¬ (2 = 3 ∨ 2 = 4) by decide)
    · exact absurd h (show ¬ (2 = 5) by decide)
    · omega
    · show a ≤ 100; omega
    · show b ≤ 100; omega
    · rw [h0]; decide
  · rw [hrun, hlow 1 (by omega), h4]
  · rw [hrun, hlow 2 (by omega), h5]
  · rw [hrun, List.getD_eq_getElem?_getD, List.getElem?_append_right (by omega), h3]
    have e : k + 3 - (3 + k) = 0 := by omega
    rw [e]
    simp only [List.getElem?_cons_zero, Option.getD_some, List.length_append]
    exact hsum
/-- The depth of a rope that has so many bytes. -/
theorem odp_le (o : Option T) (hok : ook o) (size j : Nat) (hl : (otx o).length = size) (h1 : 1 ≤ size) (hj : size < 2 ^ j) : 1 ≤ odp o ∧ odp o ≤ 2 * j := by
  cases o with
  | none => simp [otx] at hl; omega
  | some t =>
    have hl' : t.tx.length = size := hl
    refine ⟨t.dp_pos, ?_⟩
    show t.dp ≤ 2 * j
    by_cases hd : 2 * j + 1 ≤ t.dp
    · have := t.dp_log j hok hd
      omega
    · omega
end Go.Proofs.Ytddbhoilhapljaa
