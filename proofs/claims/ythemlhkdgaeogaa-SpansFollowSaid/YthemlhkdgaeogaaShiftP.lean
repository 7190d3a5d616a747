/-
  The plain law of spans.Shifted: where the places of a set go when a text is edited at p: c bytes cut, m bytes put.
-/
import Derived.Test.YthemlhkdgaeogaaSpanP
namespace Go.Proofs.Ythemlhkdgaeogaa
set_option linter.unusedVariables false
set_option linter.unusedSimpArgs false

/-- What one span becomes. -/
def piece (p c m : Nat) (x : Sp) : List Sp :=
  if x.lo < p ∧ p < x.hi then [⟨x.lo, p⟩, ⟨p + m - c, x.hi + m - c⟩] else if p ≤ x.lo then [⟨x.lo + m - c, x.hi + m - c⟩] else [x]
def pieces (p c m : Nat) (l : List Sp) : List Sp := l.flatMap (piece p c m)
/-- Nothing of the span is cut. -/
def Apart (p c : Nat) (x : Sp) : Prop := (x.lo < p → p < x.hi → c = 0) ∧ (p ≤ x.lo → p + c ≤ x.lo)
theorem pieces_cons (p c m : Nat) (x : Sp) (l : List Sp) : pieces p c m (x :: l) = piece p c m x ++ pieces p c m l := by simp [pieces]
def from_ (p c m b : Nat) : Nat := if b ≤ p then b else max (p + m) (b + m - c)
theorem pieces_asc (p c m : Nat) (l : List Sp) : ∀ b, Nrm b l → (∀ x ∈ l, Apart p c x) → Asc (from_ p c m b) (pieces p c m l) := by
  induction l with
  | nil => intro b _ _; trivial
  | cons x l ih =>
    intro b h ha
    obtain ⟨h1, h2, h3⟩ := h
    obtain ⟨a1, a2⟩ := ha x (by simp)
    have i1 := ih _ h3 (fun y hy => ha y (by simp [hy]))
    rw [pieces_cons]
    unfold piece
    by_cases q : x.lo < p ∧ p < x.hi
    · have hc := a1 q.1 q.2
      subst hc
      rw [if_pos q]
      refine ⟨?_, ?_, ?_, ?_, i1.mono ?_⟩
      · show from_ p 0 m b ≤ x.lo; unfold from_; rw [if_pos (by omega)]; exact h1
      · show x.lo ≤ p; omega
      · show x.lo ≤ p + m - 0; omega
      · show p + m - 0 ≤ x.hi + m - 0; omega
      · show p + m - 0 ≤ from_ p 0 m (x.hi + 1); unfold from_; rw [if_neg (by omega)]; omega
    · rw [if_neg q]
      by_cases r : p ≤ x.lo
      · have hc := a2 r
        rw [if_pos r]
        refine ⟨?_, ?_, i1.mono ?_⟩
        · show from_ p c m b ≤ x.lo + m - c
          unfold from_
          split <;> omega
        · show x.lo + m - c ≤ x.hi + m - c; omega
        · show x.lo + m - c ≤ from_ p c m (x.hi + 1); unfold from_; rw [if_neg (by omega)]; omega
      · rw [if_neg r]
        refine ⟨?_, by omega, i1.mono ?_⟩
        · show from_ p c m b ≤ x.lo; unfold from_; rw [if_pos (by omega)]; exact h1
        · show x.lo ≤ from_ p c m (x.hi + 1)
          unfold from_
          split <;> omega
/-- Where a place is found behind the edit, if it is not one that was put. -/
def backAt (p c m j : Nat) (l : List Sp) : Bool := if j < p then inS l j else decide (p + m ≤ j) && inS l (j + c - m)
theorem piece_in (p c m : Nat) (x : Sp) (hx : x.lo < x.hi) (ha : Apart p c x) (j : Nat) : inS (piece p c m x) j = backAt p c m j [x] := by
  obtain ⟨a1, a2⟩ := ha
  unfold piece backAt
  rw [Bool.eq_iff_iff]
  by_cases q : x.lo < p ∧ p < x.hi
  · have hc := a1 q.1 q.2
    subst hc
    rw [if_pos q]
    by_cases k : j < p
    · rw [if_pos k]
      simp only [inS, List.any_cons, List.any_nil, Bool.or_false, Bool.or_eq_true, Bool.and_eq_true, decide_eq_true_eq]
      omega
    · rw [if_neg k]
      simp only [inS, List.any_cons, List.any_nil, Bool.or_false, Bool.or_eq_true, Bool.and_eq_true, decide_eq_true_eq]
      omega
  · rw [if_neg q]
    by_cases r : p ≤ x.lo
    · have hc := a2 r
      rw [if_pos r]
      by_cases k : j < p
      · rw [if_pos k]
        simp only [inS, List.any_cons, List.any_nil, Bool.or_false, Bool.or_eq_true, Bool.and_eq_true, decide_eq_true_eq]
        omega
      · rw [if_neg k]
        simp only [inS, List.any_cons, List.any_nil, Bool.or_false, Bool.or_eq_true, Bool.and_eq_true, decide_eq_true_eq]
        omega
    · rw [if_neg r]
      by_cases k : j < p
      · rw [if_pos k]
      · rw [if_neg k]
        simp only [inS, List.any_cons, List.any_nil, Bool.or_false, Bool.or_eq_true, Bool.and_eq_true, decide_eq_true_eq]
        omega
theorem backAt_cons (p c m j : Nat) (x : Sp) (l : List Sp) : backAt p c m j (x :: l) = (backAt p c m j [x] || backAt p c m j l) := by
  unfold backAt
  split
  · rw [inS_cons, inS_cons, inS_nil, Bool.or_false]
  · rw [inS_cons, inS_cons, inS_nil, Bool.or_false, Bool.and_or_distrib_left]
theorem pieces_in (p c m : Nat) (l : List Sp) : ∀ b, Nrm b l → (∀ x ∈ l, Apart p c x) → ∀ j, inS (pieces p c m l) j = backAt p c m j l := by
  induction l with
  | nil => intro b _ _ j; simp [pieces, backAt, inS]
  | cons x l ih =>
    intro b h ha j
    rw [pieces_cons, inS_append, piece_in p c m x h.2.1 (ha x (by simp)) j, ih _ h.2.2 (fun y hy => ha y (by simp [hy])) j, ← backAt_cons]
/-- Behind the cut nothing of the set lies in what was cut. -/
theorem apart_of {l : List Sp} {b p c : Nat} (hN : Nrm b l) (h : ∀ j, p ≤ j → j < p + c → inS l j = false) : ∀ x ∈ l, Apart p c x := by
  intro x hx
  have hlt := (nrm_hi l b hN x hx).2.1
  have hin : ∀ j, x.lo ≤ j → j < x.hi → inS l j = true := fun j h1 h2 => by
    unfold inS
    rw [List.any_eq_true]
    exact ⟨x, hx, by simp [h1, h2]⟩
  refine ⟨fun h1 h2 => ?_, fun h1 => ?_⟩
  · rcases Nat.eq_zero_or_pos c with h0 | h0
    · exact h0
    · have k1 := hin p (by omega) h2
      rw [h p (Nat.le_refl _) (by omega)] at k1
      cases k1
  · rcases Nat.lt_or_ge x.lo (p + c) with h0 | h0
    · have k1 := hin x.lo (Nat.le_refl _) hlt
      rw [h x.lo h1 h0] at k1
      cases k1
    · exact h0
theorem pieces_len (p c m : Nat) (l : List Sp) : ∀ b, Nrm b l → (pieces p c m l).length ≤ l.length + 1 := by
  have hno : ∀ (l : List Sp) b, Nrm b l → p ≤ b → (pieces p c m l).length ≤ l.length := by
    intro l
    induction l with
    | nil => intro b _ _; simp [pieces]
    | cons x l ih =>
      intro b h hb
      have h1 := h.1
      have h2 := h.2.1
      have := ih _ h.2.2 (by omega)
      rw [pieces_cons, List.length_append, List.length_cons]
      unfold piece
      rw [if_neg (by omega), if_pos (by omega)]
      simp; omega
  induction l with
  | nil => intro b _; simp [pieces]
  | cons x l ih =>
    intro b h
    have h1 := h.1
    have h2 := h.2.1
    have i1 := ih _ h.2.2
    rw [pieces_cons, List.length_append, List.length_cons]
    unfold piece
    by_cases q : x.lo < p ∧ p < x.hi
    · have := hno l _ h.2.2 (by omega)
      rw [if_pos q]; simp; omega
    · rw [if_neg q]
      split <;> simp <;> omega
end Go.Proofs.Ythemlhkdgaeogaa
