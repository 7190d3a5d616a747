/-
  Hunks and how two sides are merged, plain.
-/
import Derived.Test.YtpgjjnbepkofdaaWayP
namespace Go.Proofs.Ytpgjjnbepkofdaa
set_option linter.unusedVariables false
set_option linter.unusedSimpArgs false

/-- From a place of the base on, ahead of another one, stand other lines. -/
structure Hk (α : Type) where
  lo : Nat
  hi : Nat
  ls : List α
section
variable {α : Type}
/-- In order, none touching the one ahead. -/
def Ch (l : List (Hk α)) : Prop := l.Pairwise (fun x y => x.hi < y.lo) ∧ ∀ x ∈ l, x.lo ≤ x.hi
/-- What hunks make of the base between two places. -/
def mkL (base : List α) (hi : Nat) : List (Hk α) → Nat → List α
  | [], lo => (base.take hi).drop lo
  | h :: t, lo => (base.take h.lo).drop lo ++ h.ls ++ mkL base hi t h.hi
/-- .. behind a place. -/
def app (base : List α) : List (Hk α) → Nat → List α
  | [], f => base.drop f
  | h :: t, f => (base.take h.lo).drop f ++ h.ls ++ app base t h.hi
theorem app_mk (base : List α) (l : List (Hk α)) (f : Nat) : app base l f = mkL base base.length l f := by
  induction l generalizing f with
  | nil => rw [app, mkL, List.take_length]
  | cons h t ih => rw [app, mkL, ih]
/-- How many hunks do not begin behind a place, and how far they go. -/
def upTo : List (Hk α) → Nat → Nat × Nat
  | [], hi => (0, hi)
  | h :: t, hi => if h.lo ≤ hi then ((upTo t (max hi h.hi)).1 + 1, (upTo t (max hi h.hi)).2) else (0, hi)
theorem upTo_nil (hi : Nat) : upTo ([] : List (Hk α)) hi = (0, hi) := rfl
theorem upTo_cons (h : Hk α) (t : List (Hk α)) (hi : Nat) : upTo (h :: t) hi = if h.lo ≤ hi then ((upTo t (max hi h.hi)).1 + 1, (upTo t (max hi h.hi)).2) else (0, hi) := rfl
theorem upTo_le (l : List (Hk α)) (hi : Nat) : (upTo l hi).1 ≤ l.length ∧ hi ≤ (upTo l hi).2 := by
  induction l generalizing hi with
  | nil => exact ⟨Nat.le_refl _, Nat.le_refl _⟩
  | cons h t ih =>
    rw [upTo_cons]
    split
    · have := ih (max hi h.hi)
      simp only [List.length_cons]
      omega
    · exact ⟨Nat.zero_le _, Nat.le_refl _⟩
theorem upTo_in (l : List (Hk α)) (hi : Nat) : ∀ h ∈ l.take (upTo l hi).1, h.hi ≤ (upTo l hi).2 := by
  induction l generalizing hi with
  | nil => simp
  | cons h t ih =>
    rw [upTo_cons]
    split
    · simp only [List.take_succ_cons, List.mem_cons]
      rintro x (rfl | hx)
      · have := (upTo_le t (max hi x.hi)).2; omega
      · exact ih _ x hx
    · simp
theorem upTo_next (l : List (Hk α)) (hi : Nat) : ∀ h t, l.drop (upTo l hi).1 = h :: t → (upTo l hi).2 < h.lo := by
  induction l generalizing hi with
  | nil => simp
  | cons g l ih =>
    rw [upTo_cons]
    split
    · simp only [List.drop_succ_cons]; exact ih _
    · intro h t e
      simp only [List.drop_zero, List.cons.injEq] at e
      rw [← e.1]; show hi < g.lo; omega
theorem upTo_zero (l : List (Hk α)) (hi : Nat) (h : (upTo l hi).1 = 0) : (upTo l hi).2 = hi := by
  cases l with
  | nil => rfl
  | cons g l =>
    rw [upTo_cons] at h ⊢
    split at h
    · simp at h
    · rename_i q; rw [if_neg q]
/-- The least that is closed. -/
theorem upTo_min (l : List (Hk α)) (hi n H : Nat) (hn : n ≤ l.length) (h1 : hi ≤ H) (h2 : ∀ h ∈ l.take n, h.hi ≤ H) (h3 : ∀ h t, l.drop n = h :: t → H < h.lo) : (upTo l hi).1 ≤ n ∧ (upTo l hi).2 ≤ H := by
  induction l generalizing hi n with
  | nil => exact ⟨Nat.zero_le _, h1⟩
  | cons g l ih =>
    rw [upTo_cons]
    split
    · rename_i q
      cases n with
      | zero => have := h3 g l rfl; omega
      | succ n =>
        have hg := h2 g (by simp)
        have := ih (max hi g.hi) n (by simpa using hn) (by omega) (fun h hh => h2 h (by simp [hh])) (fun h t e => h3 h t (by simpa using e))
        exact ⟨by simp only; omega, this.2⟩
    · exact ⟨Nat.zero_le _, h1⟩
/-- The first one of what is left: how many of both, and how far. -/
def partN : Nat → List (Hk α) → List (Hk α) → Nat → Nat × Nat × Nat
  | 0, _, _, hi => (0, 0, hi)
  | f + 1, a, b, hi =>
    if (upTo a hi).1 + (upTo b (upTo a hi).2).1 = 0 then (0, 0, hi)
    else ((upTo a hi).1 + (partN f (a.drop (upTo a hi).1) (b.drop (upTo b (upTo a hi).2).1) (upTo b (upTo a hi).2).2).1,
      (upTo b (upTo a hi).2).1 + (partN f (a.drop (upTo a hi).1) (b.drop (upTo b (upTo a hi).2).1) (upTo b (upTo a hi).2).2).2.1,
      (partN f (a.drop (upTo a hi).1) (b.drop (upTo b (upTo a hi).2).1) (upTo b (upTo a hi).2).2).2.2)
structure Closed (a b : List (Hk α)) (hi n m H : Nat) : Prop where
  na : n ≤ a.length
  mb : m ≤ b.length
  le : hi ≤ H
  ia : ∀ h ∈ a.take n, h.hi ≤ H
  ib : ∀ h ∈ b.take m, h.hi ≤ H
  xa : ∀ h t, a.drop n = h :: t → H < h.lo
  xb : ∀ h t, b.drop m = h :: t → H < h.lo
theorem Closed.swap {a b : List (Hk α)} {hi n m H : Nat} (h : Closed a b hi n m H) : Closed b a hi m n H := ⟨h.mb, h.na, h.le, h.ib, h.ia, h.xb, h.xa⟩
theorem take_add_mem {l : List (Hk α)} {n k : Nat} {h : Hk α} (hh : h ∈ l.take (n + k)) : h ∈ l.take n ∨ h ∈ (l.drop n).take k := by
  rw [List.take_add] at hh
  exact List.mem_append.1 hh
theorem partN_closed (f : Nat) (a b : List (Hk α)) (hi : Nat) (hf : a.length + b.length < f) : Closed a b hi (partN f a b hi).1 (partN f a b hi).2.1 (partN f a b hi).2.2 := by
  induction f generalizing a b hi with
  | zero => omega
  | succ f ih =>
    rw [partN]
    have a1 := upTo_le a hi
    have b1 := upTo_le b (upTo a hi).2
    split
    · rename_i q
      have qa : (upTo a hi).1 = 0 := by omega
      have qb : (upTo b (upTo a hi).2).1 = 0 := by omega
      have ea := upTo_zero a hi qa
      have eb := upTo_zero b _ qb
      refine ⟨Nat.zero_le _, Nat.zero_le _, Nat.le_refl _, by simp, by simp, fun h t e => ?_, fun h t e => ?_⟩
      · have := upTo_next a hi h t (by rw [qa]; exact e)
        show hi < h.lo
        omega
      · have := upTo_next b (upTo a hi).2 h t (by rw [qb]; exact e)
        show hi < h.lo
        omega
    · rename_i q
      have c := ih (a.drop (upTo a hi).1) (b.drop (upTo b (upTo a hi).2).1) (upTo b (upTo a hi).2).2 (by rw [List.length_drop, List.length_drop]; omega)
      have c1 := c.na
      have c2 := c.mb
      rw [List.length_drop] at c1 c2
      have c3 := c.le
      refine ⟨by simp only; omega, by simp only; omega, by simp only; omega, fun h hh => ?_, fun h hh => ?_, fun h t e => ?_, fun h t e => ?_⟩
      · simp only at hh ⊢
        rcases take_add_mem hh with hh | hh
        · have := upTo_in a hi h hh; omega
        · exact c.ia h hh
      · simp only at hh ⊢
        rcases take_add_mem hh with hh | hh
        · have := upTo_in b _ h hh; omega
        · exact c.ib h hh
      · exact c.xa h t (by rw [List.drop_drop]; exact e)
      · exact c.xb h t (by rw [List.drop_drop]; exact e)
theorem partN_min (f : Nat) (a b : List (Hk α)) (hi n m H : Nat) (c : Closed a b hi n m H) : (partN f a b hi).1 ≤ n ∧ (partN f a b hi).2.1 ≤ m ∧ (partN f a b hi).2.2 ≤ H := by
  induction f generalizing a b hi n m with
  | zero => exact ⟨Nat.zero_le _, Nat.zero_le _, c.le⟩
  | succ f ih =>
    rw [partN]
    have u1 := upTo_min a hi n H c.na c.le c.ia c.xa
    have u2 := upTo_min b (upTo a hi).2 m H c.mb u1.2 c.ib c.xb
    split
    · exact ⟨Nat.zero_le _, Nat.zero_le _, c.le⟩
    · have hna := c.na
      have hmb := c.mb
      have c' : Closed (a.drop (upTo a hi).1) (b.drop (upTo b (upTo a hi).2).1) (upTo b (upTo a hi).2).2 (n - (upTo a hi).1) (m - (upTo b (upTo a hi).2).1) H := by
        refine ⟨by rw [List.length_drop]; omega, by rw [List.length_drop]; omega, u2.2, fun h hh => ?_, fun h hh => ?_, fun h t e => ?_, fun h t e => ?_⟩
        · refine c.ia h ?_
          rw [show n = (upTo a hi).1 + (n - (upTo a hi).1) by omega, List.take_add]
          exact List.mem_append.2 (.inr hh)
        · refine c.ib h ?_
          rw [show m = (upTo b (upTo a hi).2).1 + (m - (upTo b (upTo a hi).2).1) by omega, List.take_add]
          exact List.mem_append.2 (.inr hh)
        · refine c.xa h t ?_
          rw [List.drop_drop, show (upTo a hi).1 + (n - (upTo a hi).1) = n by omega] at e
          exact e
        · refine c.xb h t ?_
          rw [List.drop_drop, show (upTo b (upTo a hi).2).1 + (m - (upTo b (upTo a hi).2).1) = m by omega] at e
          exact e
      have := ih _ _ _ _ _ c'
      simp only
      omega
/-- Who is first does not matter. -/
theorem partN_swap (f g : Nat) (a b : List (Hk α)) (hi : Nat) (hf : a.length + b.length < f) (hg : a.length + b.length < g) : partN g b a hi = ((partN f a b hi).2.1, (partN f a b hi).1, (partN f a b hi).2.2) := by
  have c1 := partN_closed f a b hi hf
  have c2 := partN_closed g b a hi (by omega)
  have m1 := partN_min f a b hi _ _ _ c2.swap
  have m2 := partN_min g b a hi _ _ _ c1.swap
  have e1 : (partN g b a hi).1 = (partN f a b hi).2.1 := by omega
  have e2 : (partN g b a hi).2.1 = (partN f a b hi).1 := by omega
  have e3 : (partN g b a hi).2.2 = (partN f a b hi).2.2 := by omega
  rw [← e1, ← e2, ← e3]
/-- Where the next one begins. -/
def fst : List (Hk α) → List (Hk α) → Nat
  | h :: _, g :: _ => min h.lo g.lo
  | h :: _, [] => h.lo
  | [], g :: _ => g.lo
  | [], [] => 0
theorem fst_swap (a b : List (Hk α)) : fst a b = fst b a := by
  cases a <;> cases b <;> simp [fst, Nat.min_comm]
/-- Something is taken. -/
theorem partN_some (f : Nat) (a b : List (Hk α)) (hf : a.length + b.length < f) (h0 : 0 < a.length + b.length) : 0 < (partN f a b (fst a b)).1 + (partN f a b (fst a b)).2.1 := by
  have c := partN_closed f a b (fst a b) hf
  rcases Nat.eq_zero_or_pos ((partN f a b (fst a b)).1 + (partN f a b (fst a b)).2.1) with q | q
  · exfalso
    have qa : (partN f a b (fst a b)).1 = 0 := by omega
    have qb : (partN f a b (fst a b)).2.1 = 0 := by omega
    have c3 := c.le
    have xa := c.xa
    have xb := c.xb
    rw [qa] at xa
    rw [qb] at xb
    cases a with
    | nil =>
      cases b with
      | nil => simp at h0
      | cons g b => have := xb g b rfl; simp only [fst] at *; omega
    | cons h a =>
      have h1 := xa h a rfl
      cases b with
      | nil => simp only [fst] at *; omega
      | cons g b => have h2 := xb g b rfl; simp only [fst] at *; omega
  · exact q
/-- One part of what is merged: its lines, and whether they clash. -/
def piece [DecidableEq α] (marks : List α → List α → List α) (x y : List (Hk α)) (u v : List α) : List α × Nat :=
  if y.length = 0 ∨ u = v then (u, 0) else if x.length = 0 then (v, 0) else (marks u v, 1)
/-- All of it. -/
def mg [DecidableEq α] (marks : List α → List α → List α) (base : List α) : Nat → List (Hk α) → List (Hk α) → Nat → List α × Nat
  | 0, _, _, at_ => (base.drop at_, 0)
  | f + 1, a, b, at_ =>
    if a.length + b.length = 0 then (base.drop at_, 0) else
    let p := partN (a.length + b.length + 1) a b (fst a b)
    let c := piece marks (a.take p.1) (b.take p.2.1) (mkL base p.2.2 (a.take p.1) (fst a b)) (mkL base p.2.2 (b.take p.2.1) (fst a b))
    let r := mg marks base f (a.drop p.1) (b.drop p.2.1) p.2.2
    ((base.take (fst a b)).drop at_ ++ c.1 ++ r.1, c.2 + r.2)
end
end Go.Proofs.Ytpgjjnbepkofdaa
