/-
  Plain: marks in order, one behind the other.
-/
import Derived.Test.YtpjpckhmjonehaaNear
import Derived.Test.YtpjpckhmjonehaaOrdr
namespace Go.Proofs.Ytpjpckhmjonehaa
set_option linter.unusedVariables false
set_option linter.unusedSimpArgs false

def plc (ms : List Mk) (q : Nat) : Nat := (ms.getD q ⟨0, false⟩).at_
def ordAt {n : Nat} (l : List (Fin n)) (i : Nat) : Nat := (l.map fun x => x.val).getD i 0
def toldO (O : Nat → Nat) (i q : Nat) : Bool := (List.range i).any fun t => O t == q
/-- A row of all numbers below n, by place. -/
structure InOrd (n : Nat) (O PL : Nat → Nat) : Prop where
  lt : ∀ i, i < n → O i < n
  inj : ∀ i j, i < j → j < n → O i ≠ O j
  all : ∀ q, q < n → ∃ i, i < n ∧ O i = q
  asc : ∀ i j, i < j → j < n → PL (O i) ≤ PL (O j)
/-- The first place from k on, among the first i. -/
def FirstAt (O PL : Nat → Nat) (k i : Nat) (f : Int) : Prop :=
  (f = -1 ∧ ∀ j, j < i → PL (O j) < k) ∨ ∃ j, j < i ∧ f = (PL (O j) : Int) ∧ k ≤ PL (O j) ∧ ∀ t, t < j → PL (O t) < k
theorem plc_at (ms : List Mk) (q : Nat) (h : q < ms.length) : plc ms q = ms[q].at_ := by
  unfold plc; rw [List.getD_eq_getElem?_getD, List.getElem?_eq_getElem h]; rfl
theorem ordAt_at {n : Nat} (l : List (Fin n)) (i : Nat) (h : i < l.length) : ordAt l i = (l[i]).val := by
  unfold ordAt; rw [List.getD_eq_getElem?_getD, List.getElem?_map, List.getElem?_eq_getElem h]; rfl
theorem inOrd_of (ms : List Mk) (l : List (Fin ms.length)) (h1 : List.Perm l (List.finRange ms.length)) (h2 : l.Pairwise fun a b => ms[a].at_ ≤ ms[b].at_) : InOrd ms.length (ordAt l) (plc ms) := by
  have hl : l.length = ms.length := by rw [h1.length_eq, List.length_finRange]
  have hnd : l.Nodup := h1.nodup_iff.2 (List.nodup_finRange _)
  refine ⟨fun i hi => ?_, fun i j hij hj => ?_, fun q hq => ?_, fun i j hij hj => ?_⟩
  · rw [ordAt_at l i (by omega)]; exact (l[i]).isLt
  · rw [ordAt_at l i (by omega), ordAt_at l j (by omega)]
    intro e
    exact List.pairwise_iff_getElem.1 hnd i j (by omega) (by omega) hij (Fin.ext e)
  · have hm : (⟨q, hq⟩ : Fin ms.length) ∈ l := h1.mem_iff.2 (List.mem_finRange _)
    obtain ⟨i, hi, e⟩ := List.mem_iff_getElem.1 hm
    exact ⟨i, by omega, by rw [ordAt_at l i hi, e]⟩
  · rw [ordAt_at l i (by omega), ordAt_at l j (by omega), plc_at _ _ (l[i]).isLt, plc_at _ _ (l[j]).isLt]
    exact List.pairwise_iff_getElem.1 h2 i j (by omega) (by omega) hij
theorem toldO_new {n : Nat} {O PL : Nat → Nat} (h : InOrd n O PL) (i : Nat) (hi : i < n) : toldO O i (O i) = false := by
  unfold toldO
  rw [List.any_eq_false]
  intro t ht
  rw [List.mem_range] at ht
  have := h.inj t i ht hi
  simpa using this
theorem toldO_succ (O : Nat → Nat) (i q : Nat) : toldO O (i + 1) q = (toldO O i q || O i == q) := by
  unfold toldO; rw [List.range_succ, List.any_append]; simp
theorem first_zero (O PL : Nat → Nat) (k : Nat) : FirstAt O PL k 0 (-1) := .inl ⟨rfl, fun j hj => absurd hj (Nat.not_lt_zero _)⟩
theorem first_keep {O PL : Nat → Nat} {k i : Nat} {f : Int} (h : FirstAt O PL k i f) (hf : ¬ f < 0) : FirstAt O PL k (i + 1) f := by
  rcases h with ⟨h1, h2⟩ | ⟨j, h1, h2⟩
  · omega
  · exact .inr ⟨j, by omega, h2⟩
theorem first_low {O PL : Nat → Nat} {k i : Nat} {f : Int} (h : FirstAt O PL k i f) (hf : f < 0) (hl : PL (O i) < k) : FirstAt O PL k (i + 1) f := by
  rcases h with ⟨h1, h2⟩ | ⟨j, h1, h2, _⟩
  · refine .inl ⟨h1, fun j hj => ?_⟩
    rcases Nat.lt_or_ge j i with r | r
    · exact h2 j r
    · have : j = i := by omega
      rw [this]; exact hl
  · omega
theorem first_new {O PL : Nat → Nat} {k i : Nat} {f : Int} (h : FirstAt O PL k i f) (hf : f < 0) (hl : k ≤ PL (O i)) : FirstAt O PL k (i + 1) (PL (O i) : Int) := by
  rcases h with ⟨h1, h2⟩ | ⟨j, h1, h2, _⟩
  · exact .inr ⟨i, Nat.lt_succ_self _, rfl, hl, h2⟩
  · omega
theorem first_none {n : Nat} {O PL : Nat → Nat} (h : InOrd n O PL) {k : Nat} {f : Int} (hF : FirstAt O PL k n f) (hf : f < 0) : ∀ q, q < n → PL q < k := by
  intro q hq
  obtain ⟨i, hi, e⟩ := h.all q hq
  rcases hF with ⟨h1, h2⟩ | ⟨j, h1, h2, _⟩
  · rw [← e]; exact h2 i hi
  · omega
theorem first_some {n : Nat} {O PL : Nat → Nat} (h : InOrd n O PL) {k : Nat} {f : Int} (hF : FirstAt O PL k n f) (hf : ¬ f < 0) : (∃ q, q < n ∧ k ≤ PL q) ∧ ∀ b, b < n → k ≤ PL b → (∀ q, q < n → k ≤ PL q → PL b ≤ PL q) → f = (PL b : Int) := by
  rcases hF with ⟨h1, h2⟩ | ⟨j, h1, h2, h3, h4⟩
  · omega
  · refine ⟨⟨O j, h.lt j h1, h3⟩, fun b hb hk hmin => ?_⟩
    have e1 := hmin (O j) (h.lt j h1) h3
    obtain ⟨t, ht, et⟩ := h.all b hb
    rcases Nat.lt_trichotomy t j with r | r | r
    · have := h4 t r; rw [et] at this; omega
    · rw [r] at et; rw [h2, et]
    · have := h.asc j t r ht; rw [et] at this
      rw [h2]; omega
end Go.Proofs.Ytpjpckhmjonehaa
