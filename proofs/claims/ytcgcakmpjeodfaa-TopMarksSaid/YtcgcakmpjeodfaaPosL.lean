/-
  Plain mathematics: in which line a place of a text is, by the places where lines begin. No program is spoken of here.
-/
import Derived.Test.YtcgcakmpjeodfaaPosP
import Derived.Test.YtcgcakmpjeodfaaUpdP
namespace Go.Proofs.Ytcgcakmpjeodfaa
set_option linter.unusedVariables false

/-- How many are at most x. -/
def atMost (x : Int) (l : List Int) : Nat := l.countP (fun y => decide (y ≤ x))
theorem nls_len_eq (l : List UInt8) (i : Int) : (nls l i).length = lnsL l := by
  induction l generalizing i with
  | nil => rfl
  | cons c l ih =>
    unfold nls lnsL
    by_cases h : c = 10
    · subst h
      rw [if_pos rfl, List.length_cons, ih, List.count_cons]; simp [lnsL]
    · rw [if_neg h, ih, List.count_cons_of_ne h]; rfl
theorem starts_len_eq (l : List UInt8) : (starts l).length = lnsL l + 1 := by simp [starts, nls_len_eq]
theorem starts_cut (l : List UInt8) (k : Nat) (h : k ≤ l.length) : starts l = starts (l.take k) ++ nls (l.drop k) k := by
  have e : nls l 0 = nls (l.take k) 0 ++ nls (l.drop k) (0 + (l.take k).length) := by rw [← nls_append, List.take_append_drop]
  unfold starts
  rw [e, List.length_take, Nat.min_eq_left h]; simp
theorem atMost_starts (l : List UInt8) (k : Nat) (h : k ≤ l.length) : atMost k (starts l) = lnsL (l.take k) + 1 := by
  rw [starts_cut l k h]
  unfold atMost
  rw [List.countP_append, List.countP_eq_length.2, List.countP_eq_zero.2, starts_len_eq]
  · intro x hx
    have := nls_bd _ _ x hx
    simp; omega
  · intro x hx
    rw [decide_eq_true_eq]
    simp only [starts, List.mem_cons] at hx
    rcases hx with rfl | hx
    · omega
    · have := nls_bd _ _ x hx
      rw [List.length_take, Nat.min_eq_left h] at this; omega
theorem last_start (l : List UInt8) : (starts l).getD (lnsL l) 0 = (l.length : Int) - colL l := by
  induction l using snoc_ind with
  | h0 => simp [starts, nls, lnsL, colL]
  | h1 l c ih =>
    rw [starts_snoc, lnsL_append, colL_snoc]
    by_cases hc : c = 10
    · subst hc
      have : lnsL [(10 : UInt8)] = 1 := rfl
      rw [if_pos rfl, if_pos rfl, this]
      have hl := starts_len_eq l
      simp [List.getD, hl]
    · have h1 : lnsL [c] = 0 := (lnsL_zero [c]).2 (by simpa using hc)
      rw [if_neg hc, if_neg hc, h1, List.append_nil, Nat.add_zero, ih]
      simp; omega
theorem start_at (l : List UInt8) (k : Nat) (h : k ≤ l.length) : (starts l).getD (lnsL (l.take k)) 0 = (k : Int) - colL (l.take k) ∧ lnsL (l.take k) < (starts l).length := by
  have h1 := last_start (l.take k)
  have h2 := starts_len_eq (l.take k)
  rw [starts_cut l k h]
  refine ⟨?_, by rw [List.length_append]; omega⟩
  rw [List.length_take, Nat.min_eq_left h] at h1
  rw [← h1]
  simp [List.getD, List.getElem?_append_left, h2]
theorem starts_wfb (l : List UInt8) (h : l.length ≤ 1000) : ∀ x ∈ starts l, 0 ≤ x ∧ x ≤ 1000 := by
  intro x hx
  simp only [starts, List.mem_cons] at hx
  rcases hx with rfl | hx
  · omega
  · have := nls_bd _ _ x hx; omega
end Go.Proofs.Ytcgcakmpjeodfaa
