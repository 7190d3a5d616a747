/-
  Plain mathematics: the least number of dropped and taken lines between two lists (a metric); common ends do not matter. No program is spoken of here.
-/
namespace Go.Proofs.Ytpgjjnbepkofdaa.Dc
variable {α : Type} [DecidableEq α]
def dcRow (x : α) (f : List α → Nat) : List α → Nat
  | [] => f [] + 1
  | y :: b => if x = y then f b else 1 + min (f (y :: b)) (dcRow x f b)
def dc : List α → List α → Nat
  | [], b => b.length
  | x :: a, b => dcRow x (dc a) b
theorem dc_nil (b : List α) : dc [] b = b.length := rfl
theorem dc_nil_right (a : List α) : dc a [] = a.length := by
  induction a with
  | nil => rfl
  | cons x a ih => show dc a [] + 1 = _; rw [ih]; rfl
theorem dc_cons (x y : α) (a b : List α) : dc (x :: a) (y :: b) = if x = y then dc a b else 1 + min (dc a (y :: b)) (dc (x :: a) b) := rfl
theorem dc_keep (x : α) (a b : List α) : dc (x :: a) (x :: b) = dc a b := by rw [dc_cons, if_pos rfl]
theorem dc_comm (a b : List α) : dc a b = dc b a := by
  induction a generalizing b with
  | nil => rw [dc_nil, dc_nil_right]
  | cons x a ih =>
    induction b with
    | nil => rw [dc_nil, dc_nil_right]
    | cons y b ihb =>
      rw [dc_cons, dc_cons, ih, ihb, ih]
      by_cases h : x = y
      · rw [if_pos h, if_pos h.symm]
      · rw [if_neg h, if_neg (Ne.symm h)]; omega
theorem dc_both (n : Nat) : ∀ (a b : List α), a.length + b.length ≤ n → (∀ x, dc (x :: a) b ≤ dc a b + 1 ∧ dc a b ≤ dc (x :: a) b + 1) ∧ (∀ y, dc a (y :: b) ≤ dc a b + 1 ∧ dc a b ≤ dc a (y :: b) + 1) := by
  induction n with
  | zero =>
    intro a b h
    have ha : a = [] := List.length_eq_zero_iff.1 (by omega)
    have hb : b = [] := List.length_eq_zero_iff.1 (by omega)
    subst ha hb; simp [dc_nil, dc_nil_right]
  | succ n ih =>
    intro a b h
    refine ⟨fun x => ?_, fun y => ?_⟩
    · cases b with
      | nil => rw [dc_nil_right, dc_nil_right]; simp; omega
      | cons y b =>
        rw [dc_cons]
        have h1 := ih a b (by simp at *; omega)
        have h2 := (h1.2 y)
        by_cases e : x = y
        · rw [if_pos e]; omega
        · rw [if_neg e]
          have := h1.1 x
          omega
    · cases a with
      | nil => rw [dc_nil, dc_nil]; simp; omega
      | cons x a =>
        rw [dc_cons]
        have h1 := ih a b (by simp at *; omega)
        have h2 := (h1.1 x)
        by_cases e : x = y
        · rw [if_pos e]; omega
        · rw [if_neg e]
          have := h1.2 y
          omega
theorem dc_del (x : α) (a b : List α) : dc (x :: a) b ≤ dc a b + 1 := ((dc_both _ a b (Nat.le_refl _)).1 x).1
theorem dc_undel (x : α) (a b : List α) : dc a b ≤ dc (x :: a) b + 1 := ((dc_both _ a b (Nat.le_refl _)).1 x).2
theorem dc_ins (y : α) (a b : List α) : dc a (y :: b) ≤ dc a b + 1 := ((dc_both _ a b (Nat.le_refl _)).2 y).1
theorem dc_unins (y : α) (a b : List α) : dc a b ≤ dc a (y :: b) + 1 := ((dc_both _ a b (Nat.le_refl _)).2 y).2
theorem dc_self (a : List α) : dc a a = 0 := by
  induction a with
  | nil => rfl
  | cons x a ih => rw [dc_keep, ih]
theorem dc_zero (a b : List α) (h : dc a b = 0) : a = b := by
  induction a generalizing b with
  | nil => rw [dc_nil] at h; exact (List.length_eq_zero_iff.1 h).symm
  | cons x a ih =>
    cases b with
    | nil => rw [dc_nil_right] at h; simp at h
    | cons y b =>
      rw [dc_cons] at h
      by_cases e : x = y
      · rw [if_pos e] at h; rw [e, ih b h]
      · rw [if_neg e] at h; omega
theorem dc_par (a b : List α) : (dc a b + a.length + b.length) % 2 = 0 := by
  induction a generalizing b with
  | nil => rw [dc_nil]; simp; omega
  | cons x a ih =>
    induction b with
    | nil => rw [dc_nil_right]; simp; omega
    | cons y b ihb =>
      rw [dc_cons]
      have h1 := ih b
      have h2 := ih (y :: b)
      simp only [List.length_cons] at *
      by_cases e : x = y
      · rw [if_pos e]; omega
      · rw [if_neg e]; omega
theorem dc_le (a b : List α) : dc a b ≤ a.length + b.length := by
  induction a with
  | nil => rw [dc_nil]; simp
  | cons x a ih => have := dc_del x a b; simp; omega
theorem dc_tri (n : Nat) : ∀ a b c : List α, a.length + b.length + c.length ≤ n → dc a c ≤ dc a b + dc b c := by
  induction n with
  | zero =>
    intro a b c h
    have ha : a = [] := List.length_eq_zero_iff.1 (by omega)
    have hc : c = [] := List.length_eq_zero_iff.1 (by omega)
    subst ha hc; simp [dc_nil]
  | succ n ih =>
    intro a b c h
    cases b with
    | nil => rw [dc_nil_right, dc_nil]; exact dc_le a c
    | cons y b =>
      cases a with
      | nil =>
        have : ∀ b c : List α, c.length ≤ b.length + dc b c := by
          intro b c
          induction b generalizing c with
          | nil => rw [dc_nil]; omega
          | cons x b ih2 =>
            have := ih2 c
            have := dc_undel x b c
            simp; omega
        rw [dc_nil, dc_nil]; exact this _ _
      | cons x a =>
        cases c with
        | nil =>
          have : ∀ a b : List α, a.length ≤ b.length + dc a b := by
            intro a b
            induction b generalizing a with
            | nil => rw [dc_nil_right]; omega
            | cons y b ih2 =>
              have := ih2 a
              have := dc_unins y a b
              simp; omega
          rw [dc_nil_right, dc_nil_right]
          have := this (x :: a) (y :: b)
          omega
        | cons z c =>
          have k2 := dc_del x a (z :: c)
          have k3 := dc_ins z (x :: a) c
          have i1 := ih a b c (by simp at *; omega)
          have i2 := ih (x :: a) b (z :: c) (by simp at *; omega)
          have i3 := ih a (y :: b) (z :: c) (by simp at *; omega)
          have i4 := ih (x :: a) (y :: b) c (by simp at *; omega)
          by_cases e1 : x = y
          · by_cases e2 : y = z
            · subst e1 e2; rw [dc_keep, dc_keep, dc_keep]; exact i1
            · rw [dc_cons y z, if_neg e2]
              subst e1
              rw [dc_keep] at *
              have i5 := ih a b (z :: c) (by simp at *; omega)
              omega
          · by_cases e2 : y = z
            · rw [dc_cons x y, if_neg e1]
              subst e2
              rw [dc_keep] at *
              have i5 := ih (x :: a) b c (by simp at *; omega)
              omega
            · rw [dc_cons x y a b, if_neg e1, dc_cons y z b c, if_neg e2]
              rw [dc_cons y z b c, if_neg e2] at i3
              rw [dc_cons x y a b, if_neg e1] at i4
              omega
def w (x y : α) : Nat := if x = y then 0 else 2
theorem dc_cons' (x y : α) (a b : List α) : dc (x :: a) (y :: b) = min (dc a b + w x y) (min (dc (x :: a) b + 1) (dc a (y :: b) + 1)) := by
  rw [dc_cons]
  have h1 := dc_undel x a b
  have h2 := dc_unins y a b
  have h3 := dc_ins y a b
  by_cases e : x = y
  · rw [if_pos e, w, if_pos e]; omega
  · rw [if_neg e, w, if_neg e]; omega
theorem dc_back (c d : α) (a b : List α) : dc (a ++ [c]) (b ++ [d]) = min (dc a b + w c d) (min (dc (a ++ [c]) b + 1) (dc a (b ++ [d]) + 1)) := by
  induction a generalizing b with
  | nil =>
    induction b with
    | nil => simp [dc_cons', dc_nil, dc_nil_right]
    | cons y b ihb =>
      simp only [List.nil_append, List.cons_append] at *
      rw [dc_cons', ihb, dc_cons', dc_nil, dc_nil, dc_nil, dc_nil]
      have : w c d ≤ 2 := by unfold w; split <;> omega
      have : w c y ≤ 2 := by unfold w; split <;> omega
      simp only [List.length_append, List.length_cons, List.length_nil] at *
      omega
  | cons x a ih =>
    induction b with
    | nil =>
      have h0 := ih []
      simp only [List.nil_append, List.cons_append] at *
      rw [dc_cons', h0, dc_cons' x d a []]
      have : w c d ≤ 2 := by unfold w; split <;> omega
      have : w x d ≤ 2 := by unfold w; split <;> omega
      simp only [dc_nil_right, List.length_append, List.length_cons, List.length_nil] at *
      omega
    | cons y b ihb =>
      have h1 := ih b
      have h2 := ih (y :: b)
      simp only [List.cons_append] at *
      rw [dc_cons' x y (a ++ [c]) (b ++ [d]), h1, h2, ihb, dc_cons' x y a b, dc_cons' x y (a ++ [c]) b, dc_cons' x y a (b ++ [d])]
      simp only [← Nat.add_min_add_right]
      ac_rfl
theorem dc_reverse (a b : List α) : dc a.reverse b.reverse = dc a b := by
  induction a generalizing b with
  | nil => simp [dc_nil]
  | cons x a ih =>
    induction b with
    | nil => simp [dc_nil_right]
    | cons y b ihb =>
      have h1 := ih (y :: b)
      simp only [List.reverse_cons] at *
      rw [dc_back, dc_cons', ih, ihb, h1]
theorem dc_head (h a b : List α) : dc (h ++ a) (h ++ b) = dc a b := by
  induction h with
  | nil => rfl
  | cons x h ih => rw [List.cons_append, List.cons_append, dc_keep, ih]
theorem dc_tail (t a b : List α) : dc (a ++ t) (b ++ t) = dc a b := by
  rw [← dc_reverse, List.reverse_append, List.reverse_append, dc_head, dc_reverse]
theorem dc_more (c : α) (a b : List α) : dc (a ++ [c]) b = dc a b + 1 ∨ dc (a ++ [c]) b + 1 = dc a b := by
  have h1 := dc_par a b
  have h2 := dc_par (a ++ [c]) b
  have h3 := dc_del c a.reverse b.reverse
  have h4 := dc_undel c a.reverse b.reverse
  have e : c :: a.reverse = (a ++ [c]).reverse := by simp
  rw [e, dc_reverse, dc_reverse] at h3 h4
  simp only [List.length_append, List.length_cons, List.length_nil] at h2
  omega
end Go.Proofs.Ytpgjjnbepkofdaa.Dc
