/-
  strings.LastIndexByte at this seat, by the shelf's contracts; small plain lemmas. No function of the given program is spoken of here.
-/
import Derived.Test.YtddbhoilhapljaaText
import Derived.Shelf.Strings.LastIndex
import Derived.Shelf.Small.Strs
namespace Go.Proofs.Ytddbhoilhapljaa
open Go.RowKit Go.Shelf Go.Lib
set_option linter.unusedVariables false

def liL_ren : Go.Shelf.Ren := ⟨fun | 149 => 61 | 222 => 85 | n => n, fun | 3 => 3 | 4 => 4 | 5 => 5 | 9 => 9 | n => n, fun n => n⟩
theorem liL : Lays.n149 Try.prog liL_ren := {
  mixed := by kernel_rfl
  f149 := Try.func61.trans (congrArg some (by kernel_rfl))
  f222 := Try.func85.trans (congrArg some (by kernel_rfl))
  t3 := Try.underlying3
  a3 := Try.isAgg3
  z3 := Try.sizeOf3
  v3 := Try.zeroValue3
  t4 := Try.underlying4
  a4 := Try.isAgg4
  z4 := Try.sizeOf4
  v4 := Try.zeroValue4
  t5 := Try.underlying5
  a5 := Try.isAgg5
  z5 := Try.sizeOf5
  v5 := Try.zeroValue5
  t9 := Try.underlying9
  a9 := Try.isAgg9
  z9 := Try.sizeOf9
  v9 := Try.zeroValue9 }

theorem indexByte_is (l : List UInt8) (c : UInt8) : Lib.indexByte l c = -1 ∨ ∃ k : Nat, k < l.length ∧ Lib.indexByte l c = k ∧ l[k]? = some c := by
  induction l with
  | nil => exact .inl rfl
  | cons b l ih =>
    by_cases hb : b = c
    · subst hb; exact .inr ⟨0, by simp, by simp [Lib.indexByte], by simp⟩
    · have hb' : (b == c) = false := by simpa using hb
      rcases ih with ih | ⟨k, hk, he, hc⟩
      · exact .inl (by simp [Lib.indexByte, hb', ih])
      · refine .inr ⟨k + 1, by simpa using hk, ?_, by simpa using hc⟩
        simp only [Lib.indexByte, hb', he]
        first | (simp; done) | (simp; omega)
theorem bang_at (s : ByteArray) (k : Nat) (h : k < s.size) : s.data[k]! = s[k] := by
  rw [getElem!_pos s.data k h]; rfl
theorem ext_at (s : ByteArray) (a b i : Nat) (h : i < (s.extract a b).size) : (s.extract a b)[i] = s[a + i]'(by rw [ByteArray.size_extract] at h; omega) := by
  show (s.extract a b).data[i] = s.data[a + i]'_
  simp only [ByteArray.data_extract, Array.getElem_extract]
theorem getElem?_at (s : ByteArray) (k : Nat) (c : UInt8) (h : s.data.toList[k]? = some c) : ∃ hk : k < s.size, s[k] = c := by
  obtain ⟨hk, he⟩ := List.getElem?_eq_some_iff.1 h
  have hk' : k < s.size := by simpa using hk
  exact ⟨hk', by rw [← he]; rfl⟩
end Go.Proofs.Ytddbhoilhapljaa
