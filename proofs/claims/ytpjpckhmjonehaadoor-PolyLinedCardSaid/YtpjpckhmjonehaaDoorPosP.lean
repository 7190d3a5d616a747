/-
  Plain mathematics of places in a text: how many bytes, lines and columns a text has, and how two texts' add up. No program is spoken of here.
-/
import Derived.Test.YtpjpckhmjonehaaDoorBase
import Derived.Lib.LastIndexByte
import Derived.Lib.Bytealg
namespace Go.Proofs.YtpjpckhmjonehaaDoor
open Go.Lib
set_option linter.unusedVariables false

/-- The column behind a text. -/
def colL (l : List UInt8) : Nat := l.foldl (fun c b => if b = 10 then 0 else c + 1) 0
/-- The lines of a text. -/
def lnsL (l : List UInt8) : Nat := l.count 10
theorem colL_snoc (l : List UInt8) (b : UInt8) : colL (l ++ [b]) = if b = 10 then 0 else colL l + 1 := by simp [colL]
theorem lnsL_append (a b : List UInt8) : lnsL (a ++ b) = lnsL a + lnsL b := by simp [lnsL]
theorem fold_none (l : List UInt8) (h : ∀ b ∈ l, b ≠ 10) : ∀ c : Nat, l.foldl (fun c b => if b = 10 then 0 else c + 1) c = c + l.length := by
  induction l with
  | nil => intro c; simp
  | cons b l ih =>
    intro c
    rw [List.foldl_cons, if_neg (h b (by simp)), ih (fun x hx => h x (by simp [hx]))]
    simp; omega
theorem colL_none (l : List UInt8) (h : ∀ b ∈ l, b ≠ 10) : colL l = l.length := by unfold colL; rw [fold_none l h]; omega
theorem colL_after (a b : List UInt8) (h : ∀ x ∈ b, x ≠ 10) : colL (a ++ 10 :: b) = b.length := by
  unfold colL
  rw [List.foldl_append, List.foldl_cons, if_pos rfl, fold_none b h]; omega
theorem lnsL_zero (l : List UInt8) : lnsL l = 0 ↔ ∀ b ∈ l, b ≠ 10 := by
  unfold lnsL
  rw [List.count_eq_zero]
  exact ⟨fun h b hb e => h (e ▸ hb), fun h hm => h 10 hm rfl⟩
theorem colL_append (a b : List UInt8) : colL (a ++ b) = if lnsL b = 0 then colL a + b.length else colL b := by
  induction b using snoc_ind with
  | h0 => simp [lnsL]
  | h1 l c ih =>
    rw [← List.append_assoc, colL_snoc, colL_snoc, lnsL_append]
    by_cases hc : c = 10
    · subst hc
      rw [if_pos rfl, if_pos rfl, if_neg (by simp [lnsL])]
    · have h1 : lnsL [c] = 0 := (lnsL_zero [c]).2 (by simpa using hc)
      rw [if_neg hc, if_neg hc, h1, ih, Nat.add_zero (lnsL l)]
      by_cases h0 : lnsL l = 0
      · rw [if_pos h0, if_pos h0]; simp; omega
      · rw [if_neg h0, if_neg h0]
theorem col_le (l : List UInt8) : lnsL l + colL l ≤ l.length := by
  induction l using snoc_ind with
  | h0 => simp [lnsL, colL]
  | h1 l c ih =>
    rw [colL_snoc, lnsL_append]
    by_cases hc : c = 10
    · subst hc
      rw [if_pos rfl]
      simp [lnsL] at ih ⊢; omega
    · have h1 : lnsL [c] = 0 := (lnsL_zero [c]).2 (by simpa using hc)
      rw [if_neg hc, h1]; simp; omega
theorem col_all (l : List UInt8) (h : lnsL l = 0) : colL l = l.length := colL_none l ((lnsL_zero l).1 h)
theorem dbang (s : ByteArray) (k : Nat) (h : k < s.size) : s.data[k]! = s.data.toList[k]'(by simpa using h) := by
  rw [getElem!_pos s.data k h]; simp
theorem last_col (s : ByteArray) : (s.size : Int) - Lib.lastIndexByte s 10 - 1 = (colL s.data.toList : Int) := by
  have hlen : s.data.toList.length = s.size := by simp
  rcases Lib.lastIdx_spec s 10 s.size with ⟨h1, h2⟩ | ⟨i, hi, h1, h2, h3⟩
  · have : colL s.data.toList = s.size := by
      rw [colL_none, hlen]
      intro b hb e
      obtain ⟨j, hj, rfl⟩ := List.getElem_of_mem hb
      have := h2 j (by omega)
      rw [dbang s j (by omega), e] at this
      exact this rfl
    unfold Lib.lastIndexByte
    rw [h1, this]; omega
  · have e1 : s.data.toList = s.data.toList.take i ++ 10 :: s.data.toList.drop (i + 1) := by
      have hb : s.data.toList[i]'(by omega) = 10 := by
        rw [dbang s i hi] at h2
        apply UInt8.toNat_inj.1
        have : (10 : UInt8).toNat = 10 := rfl
        omega
      rw [← hb, ← List.drop_eq_getElem_cons, List.take_append_drop]
    have e2 : colL s.data.toList = s.size - (i + 1) := by
      rw [e1, colL_after, List.length_drop, hlen]
      intro b hb e
      obtain ⟨j, hj, rfl⟩ := List.getElem_of_mem hb
      rw [List.length_drop] at hj
      have := h3 (i + 1 + j) (by omega) (by omega)
      rw [dbang s (i + 1 + j) (by omega)] at this
      rw [List.getElem_drop] at e
      rw [e] at this
      exact this rfl
    unfold Lib.lastIndexByte
    rw [h1, e2]; omega
/-- Places are ordered as offsets are. -/
theorem pos_order (l m : List UInt8) (h : m ≠ []) : lnsL l < lnsL (l ++ m) ∨ (lnsL l = lnsL (l ++ m) ∧ colL l < colL (l ++ m)) := by
  rw [lnsL_append, colL_append]
  have : 0 < m.length := List.length_pos_iff.2 h
  by_cases h0 : lnsL m = 0
  · rw [if_pos h0]; right; omega
  · left; omega
end Go.Proofs.YtpjpckhmjonehaaDoor
