/-
  strings.LastIndexByte at this seat, by the shelf's contracts; small plain lemmas. No function of the given program is spoken of here.
-/
import Derived.Test.YtpjpckhmjonehaaDoorText
import Derived.Shelf.Strings.LastIndex
import Derived.Shelf.Small.Strs
namespace Go.Proofs.YtpjpckhmjonehaaDoor
open Go.RowKit Go.Shelf Go.Lib
set_option linter.unusedVariables false

def liL_ren : Go.Shelf.Ren := ⟨fun | 149 => 12 | 222 => 17 | n => n, fun | 3 => 3 | 4 => 4 | 5 => 5 | 9 => 9 | n => n, fun n => n⟩
theorem liL : Lays.n149 Tryd.prog liL_ren := {
  mixed := by kernel_rfl
  f149 := Tryd.func12.trans (congrArg some (by kernel_rfl))
  f222 := Tryd.func17.trans (congrArg some (by kernel_rfl))
  t3 := Tryd.underlying3
  a3 := Tryd.isAgg3
  z3 := Tryd.sizeOf3
  v3 := Tryd.zeroValue3
  t4 := Tryd.underlying4
  a4 := Tryd.isAgg4
  z4 := Tryd.sizeOf4
  v4 := Tryd.zeroValue4
  t5 := Tryd.underlying5
  a5 := Tryd.isAgg5
  z5 := Tryd.sizeOf5
  v5 := Tryd.zeroValue5
  t9 := Tryd.underlying9
  a9 := Tryd.isAgg9
  z9 := Tryd.sizeOf9
  v9 := Tryd.zeroValue9 }

theorem indexByte_is (l : List UInt8) (c : UInt8) : Lib.indexByte l c = -1 ∨ ∃ k : Nat, k < l.length ∧ Lib.indexByte l c = k ∧ l[k]? = some c := by
  induction l with
  | nil => exact .inl rfl
  | cons b l ih =>
    by_cases hb : b = c
    · subst hb; exact .inr ⟨0, by simp, by simp [Lib.indexByte], by simp⟩
    · have hb' : (b == c) = false := by simpa using hb
      rcases ih with ih | ⟨k, hk, he, hc⟩
      · exact .inl (by simp [Lib.indexByte, hb', ih])
      · refine .inr ⟨k + 1, by simpa using hk, ?_, by simpa using hc⟩
        simp only [Lib.indexByte, hb', he]
        first | (simp; done) | (simp; omega)
theorem bang_at (s : ByteArray) (k : Nat) (h : k < s.size) : s.data[k]! = s[k] := by
  rw [getElem!_pos s.data k h]; rfl
theorem ext_at (s : ByteArray) (a b i : Nat) (h : i < (s.extract a b).size) : (s.extract a b)[i] = s[a + i]'(by rw [ByteArray.size_extract] at h; omega) := by
  show (s.extract a b).data[i] = s.data[a + i]'_
  simp only [ByteArray.data_extract, Array.getElem_extract]
theorem getElem?_at (s : ByteArray) (k : Nat) (c : UInt8) (h : s.data.toList[k]? = some c) : ∃ hk : k < s.size, s[k] = c := by
  obtain ⟨hk, he⟩ := List.getElem?_eq_some_iff.1 h
  have hk' : k < s.size := by simpa using hk
  exact ⟨hk', by rw [← he]; rfl⟩
end Go.Proofs.YtpjpckhmjonehaaDoor
