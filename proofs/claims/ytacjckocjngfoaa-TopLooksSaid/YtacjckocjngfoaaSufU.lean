/-
  Ends in order, plain: the order is one alone.
-/
import Derived.Test.YtacjckocjngfoaaKasP
namespace Go.Proofs.Ytacjckocjngfoaa
set_option linter.unusedVariables false
set_option linter.unusedSimpArgs false

theorem up_id {n : Nat} (f : Nat → Nat) (hf : ∀ i j, i < j → j < n → f i < f j) (hb : ∀ i, i < n → f i < n) : ∀ i, i < n → f i = i := by
  have h1 : ∀ i, i < n → i ≤ f i := by
    intro i
    induction i with
    | zero => intro _; exact Nat.zero_le _
    | succ i ih => intro hi; have := ih (by omega); have := hf i (i + 1) (by omega) hi; omega
  have h2 : ∀ d i, i + d < n → f i + d ≤ f (i + d) := by
    intro d
    induction d with
    | zero => intro i _; exact Nat.le_refl _
    | succ d ih => intro i hi; have := ih i (by omega); have := hf (i + d) (i + (d + 1)) (by omega) hi; omega
  intro i hi
  have := h1 i hi
  have := h2 (n - 1 - i) i (by omega)
  have := hb (i + (n - 1 - i)) (by omega)
  omega
theorem ends_unique {S : List UInt8} {n : Nat} {o p o' p' : Nat → Nat} (h : EndsUp S n o p) (h' : EndsUp S n o' p') : ∀ k, k < n → o' k = o k := by
  have k1 := up_id (n := n) (fun k => p' (o k)) (fun i j hij hj => by
    have a := (h.1 i (by omega)).1
    have b := (h.1 j hj).1
    exact (ends_lt h' a b).2 (h.2 i j hij hj)) (fun i hi => (h'.1 (o i) (h.1 i hi).1).2.1)
  intro k hk
  have e := k1 k hk
  have := (h'.1 (o k) (h.1 k hk).1).2.2.2
  have e' : p' (o k) = k := e
  rw [e'] at this
  exact this
theorem cmn_congr {S : List UInt8} {n : Nat} {o o' : Nat → Nat} (h : ∀ k, k < n → o' k = o k) (k : Nat) (hk : k < n) : cmn S o' k = cmn S o k := by
  unfold cmn
  by_cases q : k = 0
  · rw [if_pos q, if_pos q]
  · rw [if_neg q, if_neg q, h k hk, h (k - 1) (by omega)]
end Go.Proofs.Ytacjckocjngfoaa
