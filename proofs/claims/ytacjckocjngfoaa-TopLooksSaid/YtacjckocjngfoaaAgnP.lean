/-
  What Unlike and Again make of the common beginnings, plain.
-/
import Derived.Test.YtacjckocjngfoaaSufU
namespace Go.Proofs.Ytacjckocjngfoaa
set_option linter.unusedVariables false
set_option linter.unusedSimpArgs false

def csum (c : Nat → Nat) : Nat → Nat
  | 0 => 0
  | k + 1 => csum c k + c k
theorem csum_succ (c : Nat → Nat) (k : Nat) : csum c (k + 1) = csum c k + c k := rfl
theorem csum_le (c : Nat → Nat) (b : Nat) (n k : Nat) (h : ∀ j, j < n → c j ≤ b) (hk : k ≤ n) : csum c k ≤ k * b := by
  induction k with
  | zero => simp [csum]
  | succ k ih =>
    rw [csum_succ, Nat.succ_mul]
    have := ih (by omega)
    have := h k (by omega)
    omega
/-- The best so far: where, and how long. -/
def agn (c o : Nat → Nat) : Nat → Nat × Nat
  | 0 => (0, 0)
  | k + 1 => if c k = 0 then agn c o k else if (agn c o k).2 < c k ∨ (c k = (agn c o k).2 ∧ min (o k) (o (k - 1)) < (agn c o k).1) then (min (o k) (o (k - 1)), c k) else agn c o k
theorem agn_max (c o : Nat → Nat) (n : Nat) : ∀ k, k < n → c k ≤ (agn c o n).2 := by
  induction n with
  | zero => intro k hk; omega
  | succ n ih =>
    intro k hk
    have h1 : (agn c o n).2 ≤ (agn c o (n + 1)).2 ∧ c n ≤ (agn c o (n + 1)).2 := by
      rw [agn]
      by_cases h0 : c n = 0
      · rw [if_pos h0]; omega
      · rw [if_neg h0]
        by_cases h2 : (agn c o n).2 < c n ∨ (c n = (agn c o n).2 ∧ min (o n) (o (n - 1)) < (agn c o n).1)
        · rw [if_pos h2]
          show (agn c o n).2 ≤ c n ∧ c n ≤ c n
          omega
        · rw [if_neg h2]; omega
    rcases Nat.lt_or_ge k n with q | q
    · have := ih k q; omega
    · have : k = n := by omega
      subst this; exact h1.2
theorem agn_some (c o : Nat → Nat) (n : Nat) : ((agn c o n).2 = 0 ∧ (agn c o n).1 = 0) ∨ (0 < (agn c o n).2 ∧ ∃ k, k < n ∧ c k = (agn c o n).2 ∧ (agn c o n).1 = min (o k) (o (k - 1))) := by
  induction n with
  | zero => left; exact ⟨rfl, rfl⟩
  | succ n ih =>
    rw [agn]
    by_cases h0 : c n = 0
    · rw [if_pos h0]
      rcases ih with ih | ⟨h1, k, hk, h2⟩
      · exact .inl ih
      · exact .inr ⟨h1, k, by omega, h2⟩
    · rw [if_neg h0]
      by_cases h2 : (agn c o n).2 < c n ∨ (c n = (agn c o n).2 ∧ min (o n) (o (n - 1)) < (agn c o n).1)
      · rw [if_pos h2]
        exact .inr ⟨by show 0 < c n; omega, n, by omega, rfl, rfl⟩
      · rw [if_neg h2]
        rcases ih with ih | ⟨h1, k, hk, h3⟩
        · exact .inl ih
        · exact .inr ⟨h1, k, by omega, h3⟩
theorem agn_first (c o : Nat → Nat) (n : Nat) : ∀ k, k < n → c k = (agn c o n).2 → 0 < c k → (agn c o n).1 ≤ min (o k) (o (k - 1)) := by
  induction n with
  | zero => intro k hk; omega
  | succ n ih =>
    intro k hk
    rw [agn]
    have hm := agn_max c o n
    by_cases h0 : c n = 0
    · rw [if_pos h0]
      intro h1 h2
      rcases Nat.lt_or_ge k n with q | q
      · exact ih k q h1 h2
      · have : k = n := by omega
        subst this; omega
    · rw [if_neg h0]
      by_cases h3 : (agn c o n).2 < c n ∨ (c n = (agn c o n).2 ∧ min (o n) (o (n - 1)) < (agn c o n).1)
      · rw [if_pos h3]
        intro h1 h2
        show min (o n) (o (n - 1)) ≤ _
        have h1' : c k = c n := h1
        rcases Nat.lt_or_ge k n with q | q
        · have h4 := hm k q
          rcases h3 with h3 | ⟨h3, h5⟩
          · omega
          · have := ih k q (by omega) h2
            omega
        · have : k = n := by omega
          subst this; exact Nat.le_refl _
      · rw [if_neg h3]
        intro h1 h2
        rcases Nat.lt_or_ge k n with q | q
        · exact ih k q h1 h2
        · have : k = n := by omega
          subst this
          have h3a : ¬ (agn c o k).2 < c k := fun h => h3 (.inl h)
          have h3b : ¬ min (o k) (o (k - 1)) < (agn c o k).1 := fun h => h3 (.inr ⟨h1, h⟩)
          omega
theorem agn_le (c o : Nat → Nat) (n b m : Nat) (h1 : ∀ k, k < n → c k ≤ b) (h2 : ∀ k, k < n → o k ≤ m) : (agn c o n).1 ≤ m ∧ (agn c o n).2 ≤ b := by
  rcases agn_some c o n with ⟨a1, a2⟩ | ⟨a1, k, hk, a2, a3⟩
  · omega
  · have := h1 k hk
    have := h2 k hk
    have := Nat.min_le_left (o k) (o (k - 1))
    omega
end Go.Proofs.Ytacjckocjngfoaa
