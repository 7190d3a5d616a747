/-
  Plain mathematics: the Levenshtein distance of two lists of bytes is a metric; common ends do not matter. No program is spoken of here.
-/
namespace Go.Proofs.Ytbnlapickajiaaa.Lv
def neq (x y : UInt8) : Nat := if x = y then 0 else 1
def levRow (x : UInt8) (f : List UInt8 → Nat) : List UInt8 → Nat
  | [] => f [] + 1
  | y :: b => min (f b + neq x y) (min (levRow x f b + 1) (f (y :: b) + 1))
def lev : List UInt8 → List UInt8 → Nat
  | [], b => b.length
  | x :: a, b => levRow x (lev a) b
theorem lev_nil (b : List UInt8) : lev [] b = b.length := rfl
theorem lev_nil_right (a : List UInt8) : lev a [] = a.length := by
  induction a with
  | nil => rfl
  | cons x a ih => show lev a [] + 1 = _; rw [ih]; rfl
theorem lev_cons (x y : UInt8) (a b : List UInt8) : lev (x :: a) (y :: b) = min (lev a b + neq x y) (min (lev (x :: a) b + 1) (lev a (y :: b) + 1)) := rfl
theorem neq_self (x : UInt8) : neq x x = 0 := by simp [neq]
theorem neq_comm (x y : UInt8) : neq x y = neq y x := by simp [neq, eq_comm]
theorem neq_le (x y : UInt8) : neq x y ≤ 1 := by unfold neq; split <;> omega
theorem neq_tri (x y z : UInt8) : neq x z ≤ neq x y + neq y z := by unfold neq; split <;> split <;> split <;> simp_all
theorem lev_comm (a b : List UInt8) : lev a b = lev b a := by
  induction a generalizing b with
  | nil => rw [lev_nil, lev_nil_right]
  | cons x a ih =>
    induction b with
    | nil => rw [lev_nil, lev_nil_right]
    | cons y b ihb => rw [lev_cons, lev_cons, ih, ihb, ih, neq_comm]; omega
theorem lev_del (x : UInt8) (a b : List UInt8) : lev (x :: a) b ≤ lev a b + 1 := by
  cases b with
  | nil => rw [lev_nil_right, lev_nil_right]; simp
  | cons y b => rw [lev_cons]; omega
theorem lev_ins (y : UInt8) (a b : List UInt8) : lev a (y :: b) ≤ lev a b + 1 := by
  rw [lev_comm, lev_comm a]; exact lev_del y b a
theorem lev_undel (x : UInt8) (a b : List UInt8) : lev a b ≤ lev (x :: a) b + 1 := by
  induction b with
  | nil => rw [lev_nil_right, lev_nil_right]; simp; omega
  | cons y b ihb =>
    rw [lev_cons]
    have h1 := lev_ins y a b
    omega
theorem lev_unins (y : UInt8) (a b : List UInt8) : lev a b ≤ lev a (y :: b) + 1 := by
  rw [lev_comm, lev_comm a]; exact lev_undel y b a
theorem lev_sub (x y : UInt8) (a b : List UInt8) : lev (x :: a) (y :: b) ≤ lev a b + neq x y := by rw [lev_cons]; omega
theorem lev_keep (x : UInt8) (a b : List UInt8) : lev (x :: a) (x :: b) = lev a b := by
  rw [lev_cons, neq_self]
  have h1 := lev_undel x a b
  have h2 := lev_unins x a b
  omega
theorem lev_self (a : List UInt8) : lev a a = 0 := by
  induction a with
  | nil => rfl
  | cons x a ih => rw [lev_keep, ih]
theorem lev_zero (a b : List UInt8) (h : lev a b = 0) : a = b := by
  induction a generalizing b with
  | nil => rw [lev_nil] at h; exact (List.length_eq_zero_iff.1 h).symm
  | cons x a ih =>
    cases b with
    | nil => rw [lev_nil_right] at h; simp at h
    | cons y b =>
      rw [lev_cons] at h
      have h1 : lev a b + neq x y = 0 := by omega
      have h2 : x = y := by
        have : neq x y = 0 := by omega
        unfold neq at this; split at this <;> simp_all
      rw [h2, ih b (by omega)]
theorem lev_tri (n : Nat) : ∀ a b c : List UInt8, a.length + b.length + c.length ≤ n → lev a c ≤ lev a b + lev b c := by
  induction n with
  | zero =>
    intro a b c h
    have ha : a = [] := List.length_eq_zero_iff.1 (by omega)
    have hc : c = [] := List.length_eq_zero_iff.1 (by omega)
    subst ha hc; simp [lev_nil]
  | succ n ih =>
    intro a b c h
    cases b with
    | nil =>
      rw [lev_nil_right, lev_nil]
      have : ∀ a c : List UInt8, lev a c ≤ a.length + c.length := by
        intro a c
        induction a with
        | nil => simp [lev_nil]
        | cons x a ih2 => have := lev_del x a c; simp; omega
      exact this a c
    | cons y b =>
      cases a with
      | nil =>
        cases c with
        | nil => simp [lev_nil]
        | cons z c =>
          rw [lev_cons y z b c, lev_nil, lev_nil]
          have h1 := ih [] b c (by simp at *; omega)
          have h2 := ih [] (y :: b) c (by simp at *; omega)
          have h3 := ih [] b (z :: c) (by simp at *; omega)
          simp only [lev_nil, List.length_cons] at *
          have := neq_le y z
          omega
      | cons x a =>
        cases c with
        | nil =>
          rw [lev_cons x y a b, lev_nil_right, lev_nil_right]
          have h1 := ih a b [] (by simp at *; omega)
          have h2 := ih (x :: a) b [] (by simp at *; omega)
          have h3 := ih a (y :: b) [] (by simp at *; omega)
          simp only [lev_nil_right, List.length_cons] at *
          have := neq_le x y
          omega
        | cons z c =>
          rw [lev_cons x y a b, lev_cons y z b c]
          have k1 := lev_sub x z a c
          have k2 := lev_del x a (z :: c)
          have k3 := lev_ins z (x :: a) c
          have t := neq_tri x y z
          have i1 := ih a b c (by simp at *; omega)
          have i2 := ih (x :: a) b (z :: c) (by simp at *; omega)
          have i3 := ih a (y :: b) (z :: c) (by simp at *; omega)
          have i4 := ih (x :: a) (y :: b) c (by simp at *; omega)
          have i5 := ih a b (z :: c) (by simp at *; omega)
          have i6 := ih (x :: a) b c (by simp at *; omega)
          rw [lev_cons y z b c] at i3
          rw [lev_cons x y a b] at i4
          omega
theorem lev_back (c d : UInt8) (a b : List UInt8) : lev (a ++ [c]) (b ++ [d]) = min (lev a b + neq c d) (min (lev (a ++ [c]) b + 1) (lev a (b ++ [d]) + 1)) := by
  induction a generalizing b with
  | nil =>
    induction b with
    | nil => simp [lev_cons, lev_nil, lev_nil_right]
    | cons y b ihb =>
      simp only [List.nil_append, List.cons_append] at *
      rw [lev_cons, ihb, lev_cons, lev_nil, lev_nil, lev_nil, lev_nil]
      have := neq_le c d
      have := neq_le c y
      simp only [lev_nil, List.length_append, List.length_cons, List.length_nil] at *
      omega
  | cons x a ih =>
    induction b with
    | nil =>
      have h0 := ih []
      simp only [List.nil_append, List.cons_append] at *
      rw [lev_cons, h0, lev_cons x d a []]
      have := neq_le c d
      have := neq_le x d
      simp only [lev_nil_right, List.length_append, List.length_cons, List.length_nil] at *
      omega
    | cons y b ihb =>
      have h1 := ih b
      have h2 := ih (y :: b)
      simp only [List.cons_append] at *
      rw [lev_cons x y (a ++ [c]) (b ++ [d]), h1, h2, ihb, lev_cons x y a b, lev_cons x y (a ++ [c]) b, lev_cons x y a (b ++ [d])]
      simp only [← Nat.add_min_add_right]
      ac_rfl
theorem lev_reverse (a b : List UInt8) : lev a.reverse b.reverse = lev a b := by
  induction a generalizing b with
  | nil => simp [lev_nil]
  | cons x a ih =>
    induction b with
    | nil => simp [lev_nil_right]
    | cons y b ihb =>
      have h1 := ih (y :: b)
      simp only [List.reverse_cons] at *
      rw [lev_back, lev_cons, ih, ihb, h1]
theorem lev_head (h a b : List UInt8) : lev (h ++ a) (h ++ b) = lev a b := by
  induction h with
  | nil => rfl
  | cons x h ih => rw [List.cons_append, List.cons_append, lev_keep, ih]
theorem lev_tail (t a b : List UInt8) : lev (a ++ t) (b ++ t) = lev a b := by
  rw [← lev_reverse, List.reverse_append, List.reverse_append, lev_head, lev_reverse]
theorem lev_le (a b : List UInt8) : lev a b ≤ max a.length b.length := by
  induction a generalizing b with
  | nil => simp [lev_nil]
  | cons x a ih =>
    cases b with
    | nil => rw [lev_nil_right]; simp
    | cons y b => have := lev_sub x y a b; have := ih b; have := neq_le x y; simp; omega
theorem lev_ge (a b : List UInt8) : a.length ≤ lev a b + b.length ∧ b.length ≤ lev a b + a.length := by
  have h1 := lev_tri (a.length + b.length) a b [] (by simp)
  have h2 := lev_tri (a.length + b.length) [] a b (by simp)
  rw [lev_nil_right, lev_nil_right] at h1
  rw [lev_nil, lev_nil] at h2
  omega
theorem lev_more (c : UInt8) (a b : List UInt8) : lev (a ++ [c]) b ≤ lev a b + 1 ∧ lev a b ≤ lev (a ++ [c]) b + 1 := by
  have h3 := lev_del c a.reverse b.reverse
  have h4 := lev_undel c a.reverse b.reverse
  have e : c :: a.reverse = (a ++ [c]).reverse := by simp
  rw [e, lev_reverse, lev_reverse] at h3 h4
  exact ⟨h3, h4⟩
end Go.Proofs.Ytbnlapickajiaaa.Lv
