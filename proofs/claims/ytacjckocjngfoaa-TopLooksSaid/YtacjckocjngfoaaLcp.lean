/-
  What two texts have in common at their beginning, plain.
-/
import Derived.Test.YtacjckocjngfoaaSufL
namespace Go.Proofs.Ytacjckocjngfoaa
set_option linter.unusedVariables false
set_option linter.unusedSimpArgs false

def lcp : List UInt8 → List UInt8 → Nat
  | c :: x, d :: y => if c = d then lcp x y + 1 else 0
  | [], _ => 0
  | _ :: _, [] => 0
theorem lcp_cons (c d : UInt8) (x y : List UInt8) : lcp (c :: x) (d :: y) = if c = d then lcp x y + 1 else 0 := rfl
theorem lcp_nil (y : List UInt8) : lcp [] y = 0 := rfl
theorem lcp_nil_right (x : List UInt8) : lcp x [] = 0 := by cases x <;> rfl
theorem lcp_comm (x y : List UInt8) : lcp x y = lcp y x := by
  induction x generalizing y with
  | nil => rw [lcp_nil, lcp_nil_right]
  | cons c x ih =>
    cases y with
    | nil => rw [lcp_nil, lcp_nil_right]
    | cons d y =>
      rw [lcp_cons, lcp_cons]
      by_cases h : c = d
      · rw [if_pos h, if_pos h.symm, ih]
      · rw [if_neg h, if_neg (fun e => h e.symm)]
theorem lcp_le (x y : List UInt8) : lcp x y ≤ x.length ∧ lcp x y ≤ y.length := by
  induction x generalizing y with
  | nil => rw [lcp_nil]; exact ⟨Nat.zero_le _, Nat.zero_le _⟩
  | cons c x ih =>
    cases y with
    | nil => rw [lcp_nil_right]; exact ⟨Nat.zero_le _, Nat.zero_le _⟩
    | cons d y =>
      rw [lcp_cons]
      split
      · have := ih y
        rw [List.length_cons, List.length_cons]; omega
      · exact ⟨Nat.zero_le _, Nat.zero_le _⟩
/-- In common with the one ahead at least as much as with one farther ahead. -/
theorem lcp_mid (x y z : List UInt8) (h1 : x = y ∨ x < y) (h2 : y = z ∨ y < z) : lcp x z ≤ lcp y z := by
  induction x generalizing y z with
  | nil => rw [lcp_nil]; exact Nat.zero_le _
  | cons c x ih =>
    cases y with
    | nil =>
      rcases h1 with h1 | h1
      · cases h1
      · exact absurd h1 (List.not_lt_nil _)
    | cons d y =>
      cases z with
      | nil => rw [lcp_nil_right]; exact Nat.zero_le _
      | cons e z =>
        rw [lcp_cons, lcp_cons]
        by_cases hce : c = e
        · subst hce
          rw [if_pos rfl]
          have k1 : c < d ∨ (c = d ∧ (x = y ∨ x < y)) := by
            rcases h1 with h1 | h1
            · injection h1 with e1 e2
              exact .inr ⟨e1, .inl e2⟩
            · rw [List.cons_lt_cons_iff] at h1
              rcases h1 with h1 | ⟨e1, e2⟩
              · exact .inl h1
              · exact .inr ⟨e1, .inr e2⟩
          have k2 : d < c ∨ (d = c ∧ (y = z ∨ y < z)) := by
            rcases h2 with h2 | h2
            · injection h2 with e1 e2
              exact .inr ⟨e1, .inl e2⟩
            · rw [List.cons_lt_cons_iff] at h2
              rcases h2 with h2 | ⟨e1, e2⟩
              · exact .inl h2
              · exact .inr ⟨e1, .inr e2⟩
          have hdc : d = c := by
            rcases k1 with k1 | ⟨k1, _⟩
            · rcases k2 with k2 | ⟨k2, _⟩
              · exact absurd (UInt8.lt_trans k1 k2) (UInt8.lt_irrefl _)
              · exact k2
            · exact k1.symm
          subst hdc
          rw [if_pos rfl]
          have m1 : x = y ∨ x < y := by
            rcases k1 with k1 | ⟨_, k1⟩
            · exact absurd k1 (UInt8.lt_irrefl _)
            · exact k1
          have m2 : y = z ∨ y < z := by
            rcases k2 with k2 | ⟨_, k2⟩
            · exact absurd k2 (UInt8.lt_irrefl _)
            · exact k2
          have := ih y z m1 m2
          omega
        · rw [if_neg hce]; exact Nat.zero_le _
theorem lcp_tail {x y : List UInt8} (h : 0 < lcp x y) : lcp x.tail y.tail = lcp x y - 1 := by
  cases x with
  | nil => rw [lcp_nil] at h; omega
  | cons c x =>
    cases y with
    | nil => rw [lcp_nil_right] at h; omega
    | cons d y =>
      rw [lcp_cons] at h ⊢
      split at h
      · rename_i e; rw [if_pos e]; show lcp x y = _; omega
      · omega
theorem tail_lt {x y : List UInt8} (h : 0 < lcp x y) (hl : x < y) : x.tail < y.tail := by
  cases x with
  | nil => rw [lcp_nil] at h; omega
  | cons c x =>
    cases y with
    | nil => rw [lcp_nil_right] at h; omega
    | cons d y =>
      rw [lcp_cons] at h
      rw [List.cons_lt_cons_iff] at hl
      split at h
      · rename_i e
        subst e
        rcases hl with hl | ⟨_, hl⟩
        · exact absurd hl (UInt8.lt_irrefl _)
        · exact hl
      · omega
/-- So many bytes in common, and what is behind them. -/
theorem lcp_take (x y : List UInt8) (k : Nat) (h : k ≤ lcp x y) : x.take k = y.take k := by
  induction x generalizing y k with
  | nil => rw [lcp_nil] at h; have : k = 0 := by omega
           subst this; simp
  | cons c x ih =>
    cases y with
    | nil => rw [lcp_nil_right] at h; have : k = 0 := by omega
             subst this; simp
    | cons d y =>
      cases k with
      | zero => simp
      | succ k =>
        rw [lcp_cons] at h
        split at h
        · rename_i e; subst e
          rw [List.take_succ_cons, List.take_succ_cons, ih y k (by omega)]
        · omega
theorem lcp_next (x y : List UInt8) (h1 : lcp x y < x.length) (h2 : lcp x y < y.length) : x[lcp x y] ≠ y[lcp x y] := by
  induction x generalizing y with
  | nil => simp at h1
  | cons c x ih =>
    cases y with
    | nil => simp at h2
    | cons d y =>
      by_cases e : c = d
      · subst e
        have e2 : lcp (c :: x) (c :: y) = lcp x y + 1 := by rw [lcp_cons, if_pos rfl]
        simp only [e2, List.length_cons] at h1 h2 ⊢
        simp only [List.getElem_cons_succ]
        exact ih y (by omega) (by omega)
      · have e2 : lcp (c :: x) (d :: y) = 0 := by rw [lcp_cons, if_neg e]
        simp only [e2, List.getElem_cons_zero]
        exact e
theorem lcp_ge (x y : List UInt8) (k : Nat) (h : x.take k = y.take k) (hx : k ≤ x.length) (hy : k ≤ y.length) : k ≤ lcp x y := by
  induction k generalizing x y with
  | zero => exact Nat.zero_le _
  | succ k ih =>
    cases x with
    | nil => simp at hx
    | cons c x =>
      cases y with
      | nil => simp at hy
      | cons d y =>
        rw [List.take_succ_cons, List.take_succ_cons] at h
        injection h with e1 e2
        subst e1
        rw [lcp_cons, if_pos rfl]
        have := ih x y e2 (by simpa using hx) (by simpa using hy)
        omega
end Go.Proofs.Ytacjckocjngfoaa
