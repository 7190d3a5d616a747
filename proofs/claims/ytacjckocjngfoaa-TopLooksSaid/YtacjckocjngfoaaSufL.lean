/-
  Dense ranks of a sorted row, plain.
-/
import Derived.Test.YtacjckocjngfoaaSufP
namespace Go.Proofs.Ytacjckocjngfoaa
set_option linter.unusedVariables false
set_option linter.unusedSimpArgs false

/-- How many places up to the k-th differ from the one ahead. -/
def dn (x : Nat → List UInt8) : Nat → Nat
  | 0 => 0
  | k + 1 => dn x k + if x (k + 1) = x k then 0 else 1
theorem dn_succ (x : Nat → List UInt8) (k : Nat) : dn x (k + 1) = dn x k + if x (k + 1) = x k then 0 else 1 := rfl
theorem dn_le (x : Nat → List UInt8) (k : Nat) : dn x k ≤ k := by
  induction k with
  | zero => exact Nat.le_refl _
  | succ k ih => rw [dn_succ]; split <;> omega
theorem dn_mono (x : Nat → List UInt8) {i j : Nat} (h : i ≤ j) : dn x i ≤ dn x j := by
  obtain ⟨d, rfl⟩ := Nat.le.dest h
  induction d with
  | zero => exact Nat.le_refl _
  | succ d ih => rw [← Nat.add_assoc, dn_succ]; have := ih (by omega); omega
/-- No later one is ahead of an earlier one. -/
def Up (n : Nat) (x : Nat → List UInt8) : Prop := ∀ i j, i < j → j < n → ¬ x j < x i
theorem up_le {n : Nat} {x : Nat → List UInt8} (h : Up n x) {i j : Nat} (hij : i ≤ j) (hj : j < n) : x i < x j ∨ x i = x j := by
  rcases Nat.lt_or_ge i j with q | q
  · rcases tri8 (x i) (x j) with k | k | k
    · exact .inl k
    · exact .inr k
    · exact absurd k (h i j q hj)
  · have : i = j := by omega
    subst this; exact .inr rfl
theorem dn_eq {n : Nat} {x : Nat → List UInt8} (h : Up n x) (i d : Nat) (hj : i + d < n) : dn x i = dn x (i + d) ↔ x i = x (i + d) := by
  induction d with
  | zero => simp
  | succ d ih =>
    have h1 := ih (by omega)
    have h2 := dn_mono x (show i ≤ i + d by omega)
    rw [← Nat.add_assoc, dn_succ]
    constructor
    · intro e
      by_cases q : x (i + d + 1) = x (i + d)
      · rw [if_pos q] at e
        rw [q]; exact h1.1 (by omega)
      · rw [if_neg q] at e; omega
    · intro e
      have h3 := up_le h (show i ≤ i + d by omega) (by omega)
      have h4 := up_le h (show i + d ≤ i + d + 1 by omega) (by omega)
      have h5 : x (i + d + 1) = x (i + d) := by
        rcases h4 with h4 | h4
        · rcases h3 with h3 | h3
          · have := List.lt_trans h3 h4
            rw [e] at this; exact absurd this (lt_irr _)
          · rw [← h3, e] at h4; exact absurd h4 (lt_irr _)
        · exact h4.symm
      rw [if_pos h5]
      have := h1.2 (by rw [e, h5])
      omega
theorem dn_lt {n : Nat} {x : Nat → List UInt8} (h : Up n x) (i j : Nat) (hi : i < n) (hj : j < n) : dn x i < dn x j ↔ x i < x j := by
  rcases Nat.lt_or_ge i j with q | q
  · obtain ⟨d, rfl⟩ := Nat.le.dest (Nat.le_of_lt q)
    have h1 := dn_eq h i d hj
    have h2 := dn_mono x (show i ≤ i + d by omega)
    constructor
    · intro k
      rcases up_le h (Nat.le_of_lt q) hj with k2 | k2
      · exact k2
      · have := h1.2 k2; omega
    · intro k
      have : dn x i ≠ dn x (i + d) := fun e => by
        have := h1.1 e
        rw [this] at k; exact lt_irr _ k
      omega
  · obtain ⟨d, rfl⟩ := Nat.le.dest q
    have h2 := dn_mono x (show j ≤ j + d by omega)
    constructor
    · intro k; omega
    · intro k
      rcases up_le h q hi with k2 | k2
      · exact absurd k2 (lt_asy k)
      · rw [k2] at k; exact absurd k (lt_irr _)
/-- As many as there are: all differ. -/
theorem dn_all (x : Nat → List UInt8) (k : Nat) (h : dn x k = k) : ∀ j, j < k → x (j + 1) ≠ x j := by
  induction k with
  | zero => intro j hj; omega
  | succ k ih =>
    rw [dn_succ] at h
    have h1 := dn_le x k
    intro j hj
    by_cases q : x (k + 1) = x k
    · rw [if_pos q] at h; omega
    · rw [if_neg q] at h
      rcases Nat.lt_or_ge j k with r | r
      · exact ih (by omega) j r
      · have : j = k := by omega
        subst this; exact q
theorem dn_full (x : Nat → List UInt8) (k : Nat) (h : ∀ j, j < k → x (j + 1) ≠ x j) : dn x k = k := by
  induction k with
  | zero => rfl
  | succ k ih => rw [dn_succ, ih (fun j hj => h j (by omega)), if_neg (h k (by omega))]
/-- Then they ascend. -/
theorem up_strict {n : Nat} {x : Nat → List UInt8} (h : Up n x) (hd : ∀ j, j + 1 < n → x (j + 1) ≠ x j) {i j : Nat} (hij : i < j) (hj : j < n) : x i < x j := by
  rcases up_le h (Nat.le_of_lt hij) hj with k | k
  · exact k
  · have h1 : x i < x (i + 1) := by
      rcases up_le h (show i ≤ i + 1 by omega) (by omega) with q | q
      · exact q
      · exact absurd q.symm (hd i (by omega))
    rcases up_le h (show i + 1 ≤ j by omega) hj with q | q
    · exact List.lt_trans h1 q
    · rw [q] at h1; exact h1
/-- By w bytes ahead: ahead as a whole. -/
theorem suf_whole (S : List UInt8) (a b w : Nat) (h : suf S a w < suf S b w) : S.drop a < S.drop b := by
  have h1 := suf_more S a b w S.length h
  rw [suf_all S a _ (by omega), suf_all S b _ (by omega)] at h1
  exact h1
theorem drop_ne (S : List UInt8) (a b : Nat) (ha : a < S.length) (hb : b < S.length) (h : S.drop a = S.drop b) : a = b := by
  have := congrArg List.length h
  rw [List.length_drop, List.length_drop] at this
  omega
end Go.Proofs.Ytacjckocjngfoaa
