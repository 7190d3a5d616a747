/-
  What Again tells is the longest text that stands there twice, plain.
-/
import Derived.Test.YtacjckocjngfoaaSubP
namespace Go.Proofs.Ytacjckocjngfoaa
set_option linter.unusedVariables false
set_option linter.unusedSimpArgs false

theorem lcp_le_cmn {S : List UInt8} {n : Nat} {o p : Nat → Nat} (h : EndsUp S n o p) {a b : Nat} (ha : a < n) (hb : b < n) (hab : p a < p b) : lcp (S.drop a) (S.drop b) ≤ cmn S o (p b) := by
  obtain ⟨a1, a2, a3, a4⟩ := h.1 a ha
  obtain ⟨b1, b2, b3, b4⟩ := h.1 b hb
  rw [cmn_pos S o _ (by omega), b4]
  have h1 := ends_le h (show p a ≤ p b - 1 by omega) (by omega)
  have h2 := ends_le h (show p b - 1 ≤ p b by omega) b2
  rw [a4] at h1
  rw [b4] at h2
  have := lcp_mid _ _ _ h1 h2
  rw [lcp_comm (S.drop b)]
  exact this
/-- No two ends have more in common. -/
theorem again_most {S : List UInt8} {n : Nat} {o p : Nat → Nat} (h : EndsUp S n o p) {a b : Nat} (ha : a < n) (hb : b < n) (hab : a ≠ b) : lcp (S.drop a) (S.drop b) ≤ (agn (cmn S o) o n).2 := by
  obtain ⟨a1, a2, a3, a4⟩ := h.1 a ha
  obtain ⟨b1, b2, b3, b4⟩ := h.1 b hb
  rcases Nat.lt_trichotomy (p a) (p b) with q | q | q
  · exact Nat.le_trans (lcp_le_cmn h ha hb q) (agn_max _ _ n _ b2)
  · exact absurd (by rw [← a4, q, b4]) hab
  · rw [lcp_comm]
    exact Nat.le_trans (lcp_le_cmn h hb ha q) (agn_max _ _ n _ a2)
/-- Of two places where it stands: the first one of a pair side by side. -/
theorem again_pair {S : List UInt8} {n : Nat} (hS : S.length = n) {o p : Nat → Nat} (h : EndsUp S n o p) (hl : 0 < (agn (cmn S o) o n).2) :
    ∃ a b, a < n ∧ b < n ∧ a ≠ b ∧ lcp (S.drop a) (S.drop b) = (agn (cmn S o) o n).2 ∧ (agn (cmn S o) o n).1 = min a b := by
  rcases agn_some (cmn S o) o n with ⟨h1, _⟩ | ⟨_, k, hk, h2, h3⟩
  · omega
  · have hk0 : 0 < k := by
      rcases Nat.eq_zero_or_pos k with e | e
      · subst e
        have : cmn S o 0 = 0 := rfl
        omega
      · exact e
    rw [cmn_pos S o k hk0] at h2
    refine ⟨o k, o (k - 1), (h.1 k hk).1, (h.1 (k - 1) (by omega)).1, fun e => ?_, h2, h3⟩
    have e1 := (h.1 k hk).2.2.1
    rw [e, (h.1 (k - 1) (by omega)).2.2.1] at e1
    omega
theorem again_lt {S : List UInt8} {n : Nat} (hS : S.length = n) (hn : 0 < n) {o p : Nat → Nat} (h : EndsUp S n o p) : (agn (cmn S o) o n).2 < n ∧ (agn (cmn S o) o n).1 + (agn (cmn S o) o n).2 ≤ n := by
  rcases Nat.eq_zero_or_pos (agn (cmn S o) o n).2 with e | e
  · rcases agn_some (cmn S o) o n with ⟨_, h1⟩ | ⟨h1, _⟩ <;> omega
  · obtain ⟨a, b, ha, hb, hab, h1, h2⟩ := again_pair hS h e
    have l := lcp_le (S.drop a) (S.drop b)
    rw [List.length_drop, List.length_drop] at l
    omega
theorem lcp_app (x y z : List UInt8) : x.length ≤ lcp (x ++ y) (x ++ z) := by
  refine lcp_ge _ _ _ (by rw [List.take_left, List.take_left]) (by simp) (by simp)
/-- Written twice: it stands there again. -/
theorem again_twice {S u v : List UInt8} {n : Nat} (hS : S = u ++ v ++ u) (hl : S.length = n) (hu : 0 < u.length) {o p : Nat → Nat} (h : EndsUp S n o p) : u.length ≤ (agn (cmn S o) o n).2 := by
  have e := congrArg List.length hS
  rw [List.length_append, List.length_append] at e
  have := again_most h (a := 0) (b := u.length + v.length) (by omega) (by omega) (by omega)
  refine Nat.le_trans ?_ this
  rw [hS, List.drop_zero, show u.length + v.length = (u ++ v).length by simp, List.drop_left, List.append_assoc]
  have := lcp_app u (v ++ u) []
  rwa [List.append_nil] at this
end Go.Proofs.Ytacjckocjngfoaa
