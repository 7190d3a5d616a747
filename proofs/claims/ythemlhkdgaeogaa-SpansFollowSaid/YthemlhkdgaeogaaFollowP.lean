/-
  Counting the places that are out of a set, ahead of an edit and behind it.
-/
import Derived.Test.YthemlhkdgaeogaaShiftF
namespace Go.Proofs.Ythemlhkdgaeogaa
set_option linter.unusedVariables false
set_option linter.unusedSimpArgs false

def cnt (P : Nat → Bool) : Nat → Nat
  | 0 => 0
  | k + 1 => cnt P k + if P k then 1 else 0
theorem cnt_succ (P : Nat → Bool) (k : Nat) : cnt P (k + 1) = cnt P k + if P k then 1 else 0 := rfl
theorem cnt_le (P : Nat → Bool) (k : Nat) : cnt P k ≤ k := by
  induction k with
  | zero => exact Nat.le_refl _
  | succ k ih => unfold cnt; split <;> omega
theorem cnt_mono (P : Nat → Bool) {a b : Nat} (h : a ≤ b) : cnt P a ≤ cnt P b := by
  obtain ⟨d, rfl⟩ := Nat.le.dest h
  induction d with
  | zero => exact Nat.le_refl _
  | succ d ih => exact Nat.le_trans (ih (by omega)) (by rw [← Nat.add_assoc, cnt_succ]; omega)
theorem cnt_congr (P Q : Nat → Bool) (k : Nat) (h : ∀ j, j < k → P j = Q j) : cnt P k = cnt Q k := by
  induction k with
  | zero => rfl
  | succ k ih => unfold cnt; rw [ih (fun j hj => h j (by omega)), h k (by omega)]
theorem cnt_none (P : Nat → Bool) (k : Nat) (h : ∀ j, j < k → P j = false) : cnt P k = 0 := by
  induction k with
  | zero => rfl
  | succ k ih => unfold cnt; rw [ih (fun j hj => h j (by omega)), h k (by omega)]; rfl
theorem cnt_split (P : Nat → Bool) (a b : Nat) : cnt P (a + b) = cnt P a + cnt (fun j => P (a + j)) b := by
  induction b with
  | zero => rfl
  | succ b ih => rw [← Nat.add_assoc, cnt_succ, cnt_succ, ih]; omega
/-- Not in the set and not cut. -/
def kept (l : List Sp) (p c i : Nat) : Bool := !(inS l i || (decide (p ≤ i) && decide (i < p + c)))
theorem kept_back {l o : List Sp} {p c m i : Nat} (h : IsShift l p c m o) (hk : kept l p c i = true) : inS o (if i < p then i else i + m - c) = false := by
  unfold kept at hk
  simp only [Bool.not_eq_true', Bool.or_eq_false_iff, Bool.and_eq_false_iff, decide_eq_false_iff_not] at hk
  rw [h.2.1]
  unfold backAt
  by_cases q : i < p
  · rw [if_pos q, if_pos q, hk.1, decide_eq_false (show ¬ p ≤ i by omega)]; rfl
  · rw [if_neg q]
    have hi : p + c ≤ i := by have := hk.2; omega
    rw [if_neg (by omega), show i + m - c + c - m = i by omega, hk.1, decide_eq_false (show ¬ i + m - c < p + m by omega)]
    simp
theorem cnt_follow {l o : List Sp} {n p c m : Nat} (h : IsShift l p c m o) (hp : p + c ≤ n) : cnt (fun j => !inS o j) (n + m - c) = cnt (kept l p c) n := by
  obtain ⟨r, rfl⟩ := Nat.le.dest hp
  rw [show p + c + r + m - c = p + (m + r) by omega, cnt_split _ p (m + r), cnt_split _ m r, show p + c + r = p + (c + r) by omega, cnt_split _ p (c + r), cnt_split _ c r]
  have h1 : cnt (fun j => !inS o j) p = cnt (kept l p c) p := cnt_congr _ _ _ fun j hj => by
    show (!inS o j) = kept l p c j
    rw [h.2.1]
    unfold backAt kept
    rw [if_pos hj, decide_eq_false (show ¬ p ≤ j by omega)]
    rfl
  have h2 : cnt (fun j => !inS o (p + j)) m = 0 := cnt_none _ _ fun j hj => by
    show (!inS o (p + j)) = false
    rw [h.2.1, decide_eq_true (show p ≤ p + j by omega), decide_eq_true (show p + j < p + m by omega)]
    simp
  have h3 : cnt (fun j => kept l p c (p + j)) c = 0 := cnt_none _ _ fun j hj => by
    show kept l p c (p + j) = false
    unfold kept
    rw [decide_eq_true (show p ≤ p + j by omega), decide_eq_true (show p + j < p + c by omega)]
    simp
  have h4 : cnt (fun j => !inS o (p + (m + j))) r = cnt (fun j => kept l p c (p + (c + j))) r := cnt_congr _ _ _ fun j hj => by
    show (!inS o (p + (m + j))) = kept l p c (p + (c + j))
    rw [h.2.1]
    unfold backAt kept
    rw [if_neg (by omega), decide_eq_true (show p + m ≤ p + (m + j) by omega), decide_eq_false (show ¬ p + (m + j) < p + m by omega), decide_eq_false (show ¬ p + (c + j) < p + c by omega), show p + (m + j) + c - m = p + (c + j) by omega]
    simp
  rw [h1, h2, h3]
  show _ + (_ + cnt (fun j => !inS o (p + (m + j))) r) = _ + (_ + cnt (fun j => kept l p c (p + (c + j))) r)
  rw [h4]
end Go.Proofs.Ythemlhkdgaeogaa
