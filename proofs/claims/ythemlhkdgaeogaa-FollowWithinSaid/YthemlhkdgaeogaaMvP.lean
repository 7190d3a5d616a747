/-
  Where Place sends offsets, plain; the bytes that an edit leaves.
-/
import Derived.Test.YthemlhkdgaeogaaPlace
namespace Go.Proofs.Ythemlhkdgaeogaa
open Go.RowKit
set_option linter.unusedVariables false

theorem mv_in' (p c n i : Nat) (h1 : p ≤ i) (h2 : i < p + c) : mv p c n i true = p + n := by
  unfold mv; rw [if_neg (by omega), if_neg (by omega)]; rfl
theorem mv_out' (p c n i : Nat) (h : ¬ (p ≤ i ∧ i < p + c)) : mv p c n i true = if i < p then i else i + n - c := by
  unfold mv; simp only [if_true]; split
  · rfl
  · split
    · rfl
    · omega
theorem mk_byte' (s : ByteArray) (d : Ed) (hd : d.p + d.c ≤ s.size) (i : Nat) (hi : i < s.size) (h : ¬ (d.p ≤ i ∧ i < d.p + d.c)) :
    mv d.p d.c d.put.size i true < (mk s d).size ∧ (mk s d).data.toList[mv d.p d.c d.put.size i true]? = s.data.toList[i]? := by
  have hl : s.data.toList.length = s.size := by simp
  have hpl : d.put.data.toList.length = d.put.size := by simp
  have h1 : (s.data.toList.take d.p).length = d.p := by simp; omega
  rw [mk_size s d hd, mv_out' _ _ _ _ h, mk_list s d hd]
  by_cases hip : i < d.p
  · rw [if_pos hip]
    refine ⟨by omega, ?_⟩
    rw [List.append_assoc, List.getElem?_append_left (by omega), List.getElem?_take, if_pos hip]
  · rw [if_neg hip]
    refine ⟨by omega, ?_⟩
    rw [List.getElem?_append_right (by rw [List.length_append, h1, hpl]; omega), List.length_append, h1, hpl, List.getElem?_drop]
    congr 1; omega
theorem mk_byte_at (s : ByteArray) (d : Ed) (hd : d.p + d.c ≤ s.size) (i : Nat) (hi : i < s.size) (h : ¬ (d.p ≤ i ∧ i < d.p + d.c)) (k : Nat) (hk : mv d.p d.c d.put.size i true = k) (hk2 : k < (mk s d).size) : (mk s d)[k] = s[i] := by
  obtain ⟨h1, h2⟩ := mk_byte' s d hd i hi h
  rw [hk] at h2
  have e1 : (mk s d).data.toList[k]? = some (mk s d)[k] := by rw [List.getElem?_eq_getElem (by simpa using hk2)]; rfl
  have e2 : s.data.toList[i]? = some s[i] := by rw [List.getElem?_eq_getElem (by simpa using hi)]; rfl
  rw [e1, e2] at h2; injection h2
end Go.Proofs.Ythemlhkdgaeogaa
