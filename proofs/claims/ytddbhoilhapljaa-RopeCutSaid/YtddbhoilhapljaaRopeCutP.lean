/-
  The plain law of RopeCut: a head, a tail, and both one behind the other.
-/
import Derived.Test.YtddbhoilhapljaaMakesP
namespace Go.Proofs.Ytddbhoilhapljaa
open Go.RowKit
set_option linter.unusedVariables false

def cutOps (a k n : Nat) : List Ro := [⟨3, ⟨#[]⟩, a, 0, k, 0⟩, ⟨4, ⟨#[]⟩, a, 0, k, 0⟩, ⟨2, ⟨#[]⟩, n, n + 1, 0, 0⟩]
theorem runT_cut (os : List Ro) (ts : List (List UInt8)) (hts : (runT [] os).1 = ts) (hv : vldT [] os) (hsm : ∀ t ∈ ts, t.length ≤ 600) (hn : ts.length ≤ 40) (a k : Nat) (ha : a < ts.length) (hk : k ≤ (ts[a]).length) :
    vldT [] (os ++ cutOps a k ts.length) ∧ (runT [] (os ++ cutOps a k ts.length)).1 = ts ++ [ts[a].take k, ts[a].drop k, ts[a]] := by
  have h6 := hsm ts[a] (List.getElem_mem ha)
  have hga : ts.getD a [] = ts[a] := by rw [List.getD_eq_getElem?_getD, List.getElem?_eq_getElem ha]; rfl
  have s1 : stepT ts ⟨3, ⟨#[]⟩, a, 0, k, 0⟩ = (ts ++ [ts[a].take k], 0) := by
    unfold stepT; rw [if_pos (by show 0 ≤ 600; decide)]
    show (ts ++ [(ts.getD a []).take k], 0) = _
    rw [hga]
  have g2 : (ts ++ [ts[a].take k]).getD a [] = ts[a] := by rw [List.getD_eq_getElem?_getD, List.getElem?_append_left ha, List.getElem?_eq_getElem ha]; rfl
  have s2 : stepT (ts ++ [ts[a].take k]) ⟨4, ⟨#[]⟩, a, 0, k, 0⟩ = (ts ++ [ts[a].take k] ++ [ts[a].drop k], 0) := by
    unfold stepT; rw [if_pos (by show 0 ≤ 600; decide)]
    show (ts ++ [ts[a].take k] ++ [((ts ++ [ts[a].take k]).getD a []).drop k], 0) = _
    rw [g2]
  have g3 : (ts ++ [ts[a].take k] ++ [ts[a].drop k]).getD ts.length [] = ts[a].take k := by
    rw [List.append_assoc, List.getD_eq_getElem?_getD, List.getElem?_append_right (Nat.le_refl _)]; simp
  have g4 : (ts ++ [ts[a].take k] ++ [ts[a].drop k]).getD (ts.length + 1) [] = ts[a].drop k := by
    rw [List.append_assoc, List.getD_eq_getElem?_getD, List.getElem?_append_right (by omega)]; simp
  have s3 : stepT (ts ++ [ts[a].take k] ++ [ts[a].drop k]) ⟨2, ⟨#[]⟩, ts.length, ts.length + 1, 0, 0⟩ = (ts ++ [ts[a].take k] ++ [ts[a].drop k] ++ [ts[a]], 0) := by
    have hle : rlen (lens (ts ++ [ts[a].take k] ++ [ts[a].drop k])) ⟨2, ⟨#[]⟩, ts.length, ts.length + 1, 0, 0⟩ ≤ 600 := by
      show (lens _).getD ts.length 0 + (lens _).getD (ts.length + 1) 0 ≤ 600
      rw [lens_getD, lens_getD, g3, g4, List.length_take, List.length_drop]; omega
    unfold stepT; rw [if_pos hle]
    show (ts ++ [ts[a].take k] ++ [ts[a].drop k] ++ [(ts ++ [ts[a].take k] ++ [ts[a].drop k]).getD ts.length [] ++ (ts ++ [ts[a].take k] ++ [ts[a].drop k]).getD (ts.length + 1) []], 0) = _
    rw [g3, g4, List.take_append_drop]
  have h0 : (⟨#[]⟩ : ByteArray).size = 0 := rfl
  have l1 : (lens ts).length = ts.length := by simp [lens]
  have l2 : (lens (ts ++ [ts[a].take k])).length = ts.length + 1 := by simp [lens]
  have l3 : (lens (ts ++ [ts[a].take k] ++ [ts[a].drop k])).length = ts.length + 2 := by simp [lens]
  refine ⟨?_, ?_⟩
  · rw [vldT_append, hts]
    refine ⟨hv, ?_, ?_, ?_, trivial⟩
    · refine ⟨show 1 ≤ 3 by decide, show 3 ≤ 5 by decide, fun _ => ?_, fun h => absurd h (show ¬ (3 = 2) by decide), fun _ => ?_, fun h => absurd h (show ¬ (3 = 5) by decide), ?_, ?_, show 0 ≤ 100 by decide, ?_, show 0 ≤ 100 by decide, show _ ≤ 600 by rw [h0]; decide⟩
      · rw [l1]; exact ha
      · show k ≤ (lens ts).getD a 0; rw [lens_getD, hga]; exact hk
      · omega
      · show a ≤ 100; omega
      · show k ≤ 600; omega
    · simp only [s1]
      refine ⟨show 1 ≤ 4 by decide, show 4 ≤ 5 by decide, fun _ => ?_, fun h => absurd h (show ¬ (4 = 2) by decide), fun _ => ?_, fun h => absurd h (show ¬ (4 = 5) by decide), ?_, ?_, show 0 ≤ 100 by decide, ?_, show 0 ≤ 100 by decide, show _ ≤ 600 by rw [h0]; decide⟩
      · rw [l2]; show a < _; omega
      · show k ≤ (lens (ts ++ [ts[a].take k])).getD a 0; rw [lens_getD, g2]; exact hk
      · omega
      · show a ≤ 100; omega
      · show k ≤ 600; omega
    · simp only [s1, s2]
      refine ⟨show 1 ≤ 2 by decide, show 2 ≤ 5 by decide, fun _ => ?_, fun _ => ?_, fun h => absurd h (show ¬ (2 = 3 ∨ 2 = 4) by decide), fun h => absurd h (show ¬ (2 = 5) by decide), ?_, ?_, ?_, show 0 ≤ 600 by decide, show 0 ≤ 100 by decide, show _ ≤ 600 by rw [h0]; decide⟩
      · rw [l3]; show ts.length < _; omega
      · rw [l3]; show ts.length + 1 < _; omega
      · omega
      · show ts.length ≤ 100; omega
      · show ts.length + 1 ≤ 100; omega
  · rw [runT_append, hts]
    simp only [cutOps, runT, s1, s2, s3]
    simp
end Go.Proofs.Ytddbhoilhapljaa
