/-
  What each end has in common with the one ahead, plain: at least one byte less than the end that begins one byte earlier.
-/
import Derived.Test.YtacjckocjngfoaaSufR
import Derived.Test.YtacjckocjngfoaaLcp
namespace Go.Proofs.Ytacjckocjngfoaa
set_option linter.unusedVariables false
set_option linter.unusedSimpArgs false

/-- In common: the k-th end and the one ahead. -/
def cmn (S : List UInt8) (o : Nat → Nat) (k : Nat) : Nat := if k = 0 then 0 else lcp (S.drop (o k)) (S.drop (o (k - 1)))
theorem cmn_pos (S : List UInt8) (o : Nat → Nat) (k : Nat) (h : 0 < k) : cmn S o k = lcp (S.drop (o k)) (S.drop (o (k - 1))) := by
  unfold cmn; rw [if_neg (by omega)]
theorem ends_lt {S : List UInt8} {n : Nat} {o p : Nat → Nat} (h : EndsUp S n o p) {a b : Nat} (ha : a < n) (hb : b < n) : p a < p b ↔ S.drop a < S.drop b := by
  obtain ⟨a1, a2, a3, a4⟩ := h.1 a ha
  obtain ⟨b1, b2, b3, b4⟩ := h.1 b hb
  constructor
  · intro q
    have := h.2 (p a) (p b) q b2
    rwa [a4, b4] at this
  · intro q
    rcases Nat.lt_trichotomy (p a) (p b) with k | k | k
    · exact k
    · have : a = b := by rw [← a4, k, b4]
      subst this; exact absurd q (lt_irr _)
    · have := h.2 (p b) (p a) k a2
      rw [a4, b4] at this
      exact absurd this (lt_asy q)
theorem tail_drop (S : List UInt8) (i : Nat) : (S.drop i).tail = S.drop (i + 1) := by rw [List.tail_drop]
theorem kas_step {S : List UInt8} {n : Nat} (hS : S.length = n) {o p : Nat → Nat} (h : EndsUp S n o p) (i : Nat) (hi : i + 1 < n) (h0 : p i ≠ 0) : p (i + 1) ≠ 0 ∧ cmn S o (p i) - 1 ≤ cmn S o (p (i + 1)) ∨ cmn S o (p i) ≤ 1 := by
  obtain ⟨a1, a2, a3, a4⟩ := h.1 i (by omega)
  obtain ⟨b1, b2, b3, b4⟩ := h.1 (i + 1) hi
  rcases Nat.lt_or_ge 1 (cmn S o (p i)) with q | q
  · left
    rw [cmn_pos S o _ (by omega), a4] at q ⊢
    obtain ⟨c1, c2, c3, c4⟩ := h.1 (p i - 1) (by omega)
    generalize hk : o (p i - 1) = k at *
    have l1 := lcp_le (S.drop i) (S.drop k)
    rw [List.length_drop, List.length_drop] at l1
    have hlt : S.drop k < S.drop i := (ends_lt h c1 (by omega)).1 (by omega)
    have t1 := tail_lt (by rw [lcp_comm]; omega) hlt
    have t2 := lcp_tail (x := S.drop i) (y := S.drop k) (by omega)
    rw [tail_drop, tail_drop] at t1 t2
    have hk1 : k + 1 < n := by omega
    have hp : p (k + 1) < p (i + 1) := (ends_lt h hk1 hi).2 t1
    refine ⟨by omega, ?_⟩
    rw [cmn_pos S o _ (by omega), b4, ← t2]
    obtain ⟨d1, d2, d3, d4⟩ := h.1 (p (i + 1) - 1) (by omega)
    generalize hm : o (p (i + 1) - 1) = m at *
    have e1 : S.drop (k + 1) = S.drop m ∨ S.drop (k + 1) < S.drop m := by
      rcases Nat.lt_or_ge (p (k + 1)) (p m) with r | r
      · exact .inr ((ends_lt h hk1 d1).1 r)
      · have e : p (k + 1) = p m := by omega
        left
        rw [← (h.1 (k + 1) hk1).2.2.2, e, (h.1 m d1).2.2.2]
    have e2 : S.drop m < S.drop (i + 1) := (ends_lt h d1 hi).1 (by omega)
    have := lcp_mid _ _ _ e1 (.inr e2)
    rw [lcp_comm (S.drop (i + 1)), lcp_comm (S.drop (i + 1))]
    exact this
  · right; exact q
/-- Beyond l bytes in common: one byte more, or not. -/
theorem lcp_more (x y : List UInt8) (l : Nat) (hl : l ≤ lcp x y) : l < lcp x y ↔ ∃ (h1 : l < x.length) (h2 : l < y.length), x[l] = y[l] := by
  constructor
  · intro h
    have l1 := lcp_le x y
    refine ⟨by omega, by omega, ?_⟩
    have := lcp_take x y (l + 1) h
    have e1 := congrArg (fun z => z[l]?) this
    simp only [List.getElem?_take, Nat.lt_succ_self, if_true] at e1
    rw [List.getElem?_eq_getElem (by omega), List.getElem?_eq_getElem (by omega)] at e1
    injection e1
  · rintro ⟨h1, h2, h3⟩
    rcases Nat.lt_or_ge l (lcp x y) with q | q
    · exact q
    · have e : lcp x y = l := by omega
      have := lcp_next x y (by omega) (by omega)
      simp only [e] at this
      exact absurd h3 this
end Go.Proofs.Ytacjckocjngfoaa
