/-
  What is far from each other is both done, plain.
-/
import Derived.Test.YtpgjjnbepkofdaaMrgH
namespace Go.Proofs.Ytpgjjnbepkofdaa
set_option linter.unusedVariables false
set_option linter.unusedSimpArgs false

section
variable {α : Type}
theorem take_from (l : List α) (f p q : Nat) (h1 : f ≤ p) (h2 : p ≤ q) : (l.take q).drop f = (l.take p).drop f ++ (l.take q).drop p := by
  have e : (l.take q).take p = l.take p := by rw [List.take_take, Nat.min_eq_left h2]
  conv => lhs; rw [← List.take_append_drop p (l.take q), e]
  rw [List.drop_append]
  rcases Nat.lt_or_ge p (l.take p).length with h | h
  · rw [List.length_take] at h; omega
  · rcases Nat.lt_or_ge (l.take p).length f with h3 | h3
    · have hl : l.length < f := by rw [List.length_take] at h3; omega
      rw [List.drop_eq_nil_of_le (by rw [List.length_take]; omega : (l.take q).length ≤ p)]
      simp
    · rw [show f - (l.take p).length = 0 by omega, List.drop_zero]
theorem drop_from (l : List α) (f p : Nat) (h1 : f ≤ p) : l.drop f = (l.take p).drop f ++ l.drop p := by
  rcases Nat.lt_or_ge l.length p with h | h
  · rw [List.drop_eq_nil_of_le (by omega : l.length ≤ p), List.append_nil, List.take_of_length_le (by omega)]
  · have := take_from l f p l.length h1 h
    rw [List.take_length] at this
    exact this
theorem app_from (base : List α) (B : List (Hk α)) (f P : Nat) (h1 : f ≤ P) (hB : ∀ h ∈ B, P ≤ h.lo) : app base B f = (base.take P).drop f ++ app base B P := by
  cases B with
  | nil => exact drop_from base f P h1
  | cons h t =>
    rw [app, app, take_from base f P h.lo h1 (hB h (List.mem_cons_self ..))]
    simp only [List.append_assoc]
theorem app_cut (base : List α) (A B : List (Hk α)) (f P : Nat) (h1 : f ≤ P) (hA : ∀ h ∈ A, h.hi ≤ P) (hB : ∀ h ∈ B, P ≤ h.lo) : app base (A ++ B) f = mkL base P A f ++ app base B P := by
  induction A generalizing f with
  | nil => rw [List.nil_append, mkL]; exact app_from base B f P h1 hB
  | cons h t ih =>
    rw [List.cons_append, app, mkL, ih h.hi (hA h (List.mem_cons_self ..)) (fun x hx => hA x (List.mem_cons_of_mem _ hx))]
    simp only [List.append_assoc]
theorem fold_keeps0 (b : List α) (n : Nat) : foldH b hs0 ((List.replicate n 1).map fun k => ⟨k, 1⟩) = ⟨[], n, n, true⟩ := by
  induction n with
  | zero => rfl
  | succ n ih =>
    rw [List.replicate_succ', List.map_append]
    have e : foldH b hs0 ((List.replicate n 1).map (fun k => (⟨k, 1⟩ : St)) ++ [1].map fun k => (⟨k, 1⟩ : St)) = hstep b (foldH b hs0 ((List.replicate n 1).map fun k => ⟨k, 1⟩)) ⟨1, 1⟩ := by unfold foldH; rw [List.foldl_append]; rfl
    rw [e, ih]; rfl
end
section
variable {α : Type} [DecidableEq α]
theorem far_a (head u T : List α) (z : α) (hz : z ∉ head) (hu : z ∉ u) : ∀ h ∈ hunksOf (head ++ z :: T) (u ++ z :: T), h.hi ≤ head.length := by
  have hi := hs0_inv (head ++ z :: T) (u ++ z :: T)
  have hk := way_kind _ head u (Nat.le_refl _)
  rw [hunksOf_single, way_tail z T _ head u (Nat.le_refl _) hz hu, List.map_append]
  rw [way_tail z T _ head u (Nat.le_refl _) hz hu] at hi
  obtain ⟨h1, _⟩ := hinv_fold _ _ _ hi hk rfl
  have e : foldH (u ++ z :: T) hs0 ((way head u).map (fun k => (⟨k, 1⟩ : St)) ++ (List.replicate (T.length + 1) 1).map fun k => (⟨k, 1⟩ : St)) = foldH (u ++ z :: T) (foldH (u ++ z :: T) hs0 ((way head u).map fun k => ⟨k, 1⟩)) ((List.replicate (T.length + 1) 1).map fun k => ⟨k, 1⟩) := by unfold foldH; rw [List.foldl_append]
  rw [e, (fold_keeps _ _ _).1]
  intro h hh
  have h2 := (h1.lo h hh).2
  have h3 := h1.ok
  have h4 := (ok_rep1 (T.length + 1) [] _ _ (by rw [List.append_nil]; exact h3)).1
  rw [List.length_drop, List.length_append, List.length_cons] at h4
  have := h1.la
  omega
theorem far_b (p tail v : List α) : ∀ h ∈ hunksOf (p ++ tail) (p ++ v), p.length ≤ h.lo := by
  rw [hunksOf_single, way_head, List.map_append]
  have e : foldH (p ++ v) hs0 ((List.replicate p.length 1).map (fun k => (⟨k, 1⟩ : St)) ++ (way tail v).map fun k => (⟨k, 1⟩ : St)) = foldH (p ++ v) (foldH (p ++ v) hs0 ((List.replicate p.length 1).map fun k => ⟨k, 1⟩)) ((way tail v).map fun k => ⟨k, 1⟩) := by unfold foldH; rw [List.foldl_append]
  rw [e, fold_keeps0]
  have h0 : HInv (p ++ tail) (p ++ v) p.length ⟨[], p.length, p.length, true⟩ (way tail v ++ []) := ⟨by simp, by simp, Nat.le_refl _, by
    show okK _ ((p ++ tail).drop p.length) ((p ++ v).drop p.length)
    rw [List.drop_left, List.drop_left, List.append_nil]
    exact way_ok _ tail v (Nat.le_refl _), ⟨List.Pairwise.nil, by simp⟩, by simp, by simp, fun h => by cases h⟩
  obtain ⟨h1, _⟩ := hinv_fold _ _ _ h0 (way_kind _ tail v (Nat.le_refl _)) (by
    show mkL (p ++ tail) p.length [] 0 = (p ++ v).take p.length
    rw [mkL, List.take_left, List.take_left, List.drop_zero])
  exact fun h hh => (h1.lo h hh).1
/-- Where the one changes what is ahead of a line that is nowhere else, and the other one what is behind it. -/
theorem merge_far (marks : List α → List α → List α) (head tail u v : List α) (z : α) (hz : z ∉ head) (hu : z ∉ u) (f : Nat)
    (hf : (hunksOf (head ++ z :: tail) (u ++ z :: tail)).length + (hunksOf (head ++ z :: tail) (head ++ z :: v)).length ≤ f) :
    mg marks (head ++ z :: tail) f (hunksOf (head ++ z :: tail) (u ++ z :: tail)) (hunksOf (head ++ z :: tail) (head ++ z :: v)) 0 = (u ++ z :: v, 0) := by
  obtain ⟨ca, aa, _⟩ := hunks_ok (head ++ z :: tail) (u ++ z :: tail)
  obtain ⟨cb, ab, _⟩ := hunks_ok (head ++ z :: tail) (head ++ z :: v)
  have fa := far_a head u tail z hz hu
  have fb : ∀ h ∈ hunksOf (head ++ z :: tail) (head ++ z :: v), head.length + 1 ≤ h.lo := by
    have := far_b (head ++ [z]) tail v
    rw [List.append_assoc, List.append_assoc, List.length_append] at this
    exact this
  generalize hunksOf (head ++ z :: tail) (u ++ z :: tail) = A at *
  generalize hunksOf (head ++ z :: tail) (head ++ z :: v) = B at *
  rw [mg_apart marks _ f A B 0 hf ca cb (fun x hx y hy => by have := fa x hx; have := fb y hy; omega)]
  have e1 := app_cut (head ++ z :: tail) A [] 0 (head.length + 1) (Nat.zero_le _) (fun h hh => by have := fa h hh; omega) (by simp)
  have e2 := app_from (head ++ z :: tail) B 0 (head.length + 1) (Nat.zero_le _) fb
  have e3 := app_cut (head ++ z :: tail) A B 0 (head.length + 1) (Nat.zero_le _) (fun h hh => by have := fa h hh; omega) fb
  have hdrop : (head ++ z :: tail).drop (head.length + 1) = tail := by
    have : head ++ z :: tail = (head ++ [z]) ++ tail := by simp
    rw [this, show head.length + 1 = (head ++ [z]).length by simp, List.drop_left]
  have htake : (head ++ z :: tail).take (head.length + 1) = head ++ [z] := by
    have : head ++ z :: tail = (head ++ [z]) ++ tail := by simp
    rw [this, show head.length + 1 = (head ++ [z]).length by simp, List.take_left]
  rw [List.append_nil, aa] at e1
  have e4 : app (head ++ z :: tail) [] (head.length + 1) = tail := hdrop
  rw [e4] at e1
  rw [ab, htake, List.drop_zero] at e2
  have e5 : mkL (head ++ z :: tail) (head.length + 1) A 0 = u ++ [z] := by
    have : u ++ z :: tail = (u ++ [z]) ++ tail := by simp
    rw [this] at e1
    exact (List.append_cancel_right e1).symm
  have e6 : app (head ++ z :: tail) B (head.length + 1) = v := by
    have : head ++ z :: v = (head ++ [z]) ++ v := by simp
    rw [this] at e2
    exact (List.append_cancel_left e2).symm
  rw [e3, e5, e6]; simp
/-- Only one side, or both the same. -/
theorem merge_left (marks : List α → List α → List α) (base a : List α) (f : Nat) (hf : (hunksOf base a).length ≤ f) : mg marks base f (hunksOf base a) [] 0 = (a, 0) := by
  obtain ⟨ca, aa, _⟩ := hunks_ok base a
  rw [mg_apart marks base f _ [] 0 (by simpa using hf) ca ⟨List.Pairwise.nil, by simp⟩ (by simp), List.append_nil, aa]
theorem merge_right (marks : List α → List α → List α) (base a : List α) (f : Nat) (hf : (hunksOf base a).length ≤ f) : mg marks base f [] (hunksOf base a) 0 = (a, 0) := by
  obtain ⟨ca, aa, _⟩ := hunks_ok base a
  rw [mg_apart marks base f [] _ 0 (by simpa using hf) ⟨List.Pairwise.nil, by simp⟩ ca (by simp), List.nil_append, aa]
theorem merge_same (marks : List α → List α → List α) (base a : List α) (f : Nat) (hf : (hunksOf base a).length ≤ f) : mg marks base f (hunksOf base a) (hunksOf base a) 0 = (a, 0) := by
  obtain ⟨ca, aa, _⟩ := hunks_ok base a
  rw [mg_same marks base f _ 0 hf ca, aa]
end
end Go.Proofs.Ytpgjjnbepkofdaa
