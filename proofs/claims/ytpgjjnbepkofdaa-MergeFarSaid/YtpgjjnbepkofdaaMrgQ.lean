/-
  What is merged of two sides, plain: who is first does not matter; what is apart is both done.
-/
import Derived.Test.YtpgjjnbepkofdaaMrgP
namespace Go.Proofs.Ytpgjjnbepkofdaa
set_option linter.unusedVariables false
set_option linter.unusedSimpArgs false

section
variable {α : Type}
theorem mg_step [DecidableEq α] (marks : List α → List α → List α) (base : List α) (f : Nat) (a b : List (Hk α)) (at_ : Nat) (h : a.length + b.length ≠ 0) (n m H : Nat) (hp : partN (a.length + b.length + 1) a b (fst a b) = (n, m, H)) :
    mg marks base (f + 1) a b at_ = ((base.take (fst a b)).drop at_ ++ (piece marks (a.take n) (b.take m) (mkL base H (a.take n) (fst a b)) (mkL base H (b.take m) (fst a b))).1 ++ (mg marks base f (a.drop n) (b.drop m) H).1,
      (piece marks (a.take n) (b.take m) (mkL base H (a.take n) (fst a b)) (mkL base H (b.take m) (fst a b))).2 + (mg marks base f (a.drop n) (b.drop m) H).2) := by
  rw [mg, if_neg h]
  simp only [hp]
theorem mg_end [DecidableEq α] (marks : List α → List α → List α) (base : List α) (f : Nat) (at_ : Nat) : mg marks base f [] [] at_ = (base.drop at_, 0) := by
  cases f with
  | zero => rfl
  | succ f => rw [mg, if_pos (by simp)]
/-- Who is named first does not matter, but in clashes. -/
theorem mg_swap [DecidableEq α] (marks : List α → List α → List α) (hm : ∀ u v, (marks u v).length = (marks v u).length) (base : List α) (f : Nat) (a b : List (Hk α)) (at_ : Nat) :
    (mg marks base f a b at_).2 = (mg marks base f b a at_).2 ∧ (mg marks base f a b at_).1.length = (mg marks base f b a at_).1.length ∧ ((mg marks base f a b at_).2 = 0 → (mg marks base f a b at_).1 = (mg marks base f b a at_).1) := by
  induction f generalizing a b at_ with
  | zero => exact ⟨rfl, rfl, fun _ => rfl⟩
  | succ f ih =>
    by_cases h0 : a.length + b.length = 0
    · have ha : a = [] := List.length_eq_zero_iff.1 (by omega)
      have hb : b = [] := List.length_eq_zero_iff.1 (by omega)
      subst ha; subst hb
      exact ⟨rfl, rfl, fun _ => rfl⟩
    · obtain ⟨n, m, H, hp⟩ : ∃ n m H, partN (a.length + b.length + 1) a b (fst a b) = (n, m, H) := ⟨_, _, _, rfl⟩
      have hq : partN (b.length + a.length + 1) b a (fst b a) = (m, n, H) := by
        have := partN_swap (a.length + b.length + 1) (b.length + a.length + 1) a b (fst a b) (by omega) (by omega)
        rw [hp] at this
        rw [fst_swap b a, this]
      have hsome := partN_some (a.length + b.length + 1) a b (by omega) (by omega)
      rw [hp] at hsome
      have cl := partN_closed (a.length + b.length + 1) a b (fst a b) (by omega)
      rw [hp] at cl
      rw [mg_step marks base f a b at_ h0 n m H hp, mg_step marks base f b a at_ (by omega) m n H hq, fst_swap b a]
      obtain ⟨i1, i2, i3⟩ := ih (a.drop n) (b.drop m) H
      generalize mg marks base f (a.drop n) (b.drop m) H = r at *
      generalize mg marks base f (b.drop m) (a.drop n) H = r' at *
      have hx : (a.take n).length = n := by rw [List.length_take]; have := cl.na; simp only at this; omega
      have hy : (b.take m).length = m := by rw [List.length_take]; have := cl.mb; simp only at this; omega
      generalize mkL base H (a.take n) (fst a b) = u
      generalize mkL base H (b.take m) (fst a b) = v
      simp only at hsome ⊢
      have key : (piece marks (a.take n) (b.take m) u v).2 = (piece marks (b.take m) (a.take n) v u).2 ∧ (piece marks (a.take n) (b.take m) u v).1.length = (piece marks (b.take m) (a.take n) v u).1.length ∧ ((piece marks (a.take n) (b.take m) u v).2 = 0 → (piece marks (a.take n) (b.take m) u v).1 = (piece marks (b.take m) (a.take n) v u).1) := by
        unfold piece
        rw [hx, hy]
        by_cases huv : u = v
        · subst huv; simp
        · have huv' : ¬ v = u := fun e => huv e.symm
          by_cases hm0 : m = 0
          · have hn0 : ¬ n = 0 := by omega
            simp [huv, huv', hm0, hn0]
          · by_cases hn0 : n = 0
            · simp [huv, huv', hm0, hn0]
            · simp [huv, huv', hm0, hn0, hm u v]
      obtain ⟨k1, k2, k3⟩ := key
      refine ⟨by omega, by simp only [List.length_append]; omega, fun h => ?_⟩
      rw [k3 (by omega), i3 (by omega)]
theorem drop_take_self (l : List α) (k : Nat) : (l.take k).drop k = [] := List.drop_eq_nil_of_le (by rw [List.length_take]; omega)
theorem mk_one (base : List α) (h : Hk α) : mkL base h.hi [h] h.lo = h.ls := by rw [mkL, mkL, drop_take_self, drop_take_self]; simp
theorem ch_tail {h : Hk α} {t : List (Hk α)} (c : Ch (h :: t)) : Ch t ∧ h.lo ≤ h.hi ∧ ∀ x ∈ t, h.hi < x.lo := by
  obtain ⟨c1, c2⟩ := c
  rw [List.pairwise_cons] at c1
  exact ⟨⟨c1.2, fun x hx => c2 x (List.mem_cons_of_mem _ hx)⟩, c2 h (List.mem_cons_self ..), c1.1⟩
/-- What is apart is both done. -/
theorem mg_apart [DecidableEq α] (marks : List α → List α → List α) (base : List α) (f : Nat) (a b : List (Hk α)) (at_ : Nat) (hf : a.length + b.length ≤ f) (ca : Ch a) (cb : Ch b) (hab : ∀ x ∈ a, ∀ y ∈ b, x.hi < y.lo) :
    mg marks base f a b at_ = (app base (a ++ b) at_, 0) := by
  induction f generalizing a b at_ with
  | zero =>
    have ha : a = [] := List.length_eq_zero_iff.1 (by omega)
    have hb : b = [] := List.length_eq_zero_iff.1 (by omega)
    subst ha; subst hb
    rw [mg_end]; rfl
  | succ f ih =>
    cases a with
    | nil =>
      cases b with
      | nil => rw [mg_end]; rfl
      | cons h t =>
        obtain ⟨ct, hlo, hnx⟩ := ch_tail cb
        have hfst : fst ([] : List (Hk α)) (h :: t) = h.lo := rfl
        have c0 : Closed [] (h :: t) h.lo 0 1 h.hi := ⟨Nat.le_refl _, by simp, hlo, by simp, by simp, by simp, fun g r e => hnx g (by
          have e' : t = g :: r := e
          rw [e']; exact List.mem_cons_self ..)⟩
        have cl := partN_closed (([] : List (Hk α)).length + (h :: t).length + 1) ([] : List (Hk α)) (h :: t) h.lo (by omega)
        have mn := partN_min (([] : List (Hk α)).length + (h :: t).length + 1) _ _ _ _ _ _ c0
        have sm := partN_some (([] : List (Hk α)).length + (h :: t).length + 1) ([] : List (Hk α)) (h :: t) (by omega) (by simp)
        rw [hfst] at sm
        obtain ⟨n, m, H, hp⟩ : ∃ n m H, partN (([] : List (Hk α)).length + (h :: t).length + 1) ([] : List (Hk α)) (h :: t) h.lo = (n, m, H) := ⟨_, _, _, rfl⟩
        rw [hp] at cl mn sm
        simp only at mn sm
        obtain rfl : n = 0 := by omega
        obtain rfl : m = 1 := by omega
        have hH : h.hi ≤ H := cl.ib h (by simp)
        obtain rfl : H = h.hi := by omega
        rw [mg_step marks base f [] (h :: t) at_ (by simp) 0 1 h.hi (by rw [hfst]; exact hp), hfst]
        simp only [List.take_succ_cons, List.take_zero, List.drop_succ_cons, List.drop_zero]
        rw [mk_one, ih [] t h.hi (by simp at hf ⊢; omega) ⟨List.Pairwise.nil, by simp⟩ ct (by simp)]
        unfold piece
        by_cases q : mkL base h.hi [] h.lo = h.ls
        · rw [if_pos (.inr q), q]; simp [app]
        · rw [if_neg (by simp [q]), if_pos List.length_nil]; simp [app]
    | cons h t =>
      obtain ⟨ct, hlo, hnx⟩ := ch_tail ca
      have hfst : fst (h :: t) b = h.lo := by
        cases b with
        | nil => rfl
        | cons g r => have := hab h (List.mem_cons_self ..) g (List.mem_cons_self ..); show min h.lo g.lo = h.lo; omega
      have c0 : Closed (h :: t) b h.lo 1 0 h.hi := ⟨by simp, Nat.zero_le _, hlo, by simp, by simp, fun g r e => hnx g (by
          have e' : t = g :: r := e
          rw [e']; exact List.mem_cons_self ..), fun g r e => hab h (List.mem_cons_self ..) g (by
          have e' : b = g :: r := e
          rw [e']; exact List.mem_cons_self ..)⟩
      have cl := partN_closed ((h :: t).length + b.length + 1) (h :: t) b h.lo (by omega)
      have mn := partN_min ((h :: t).length + b.length + 1) _ _ _ _ _ _ c0
      have sm := partN_some ((h :: t).length + b.length + 1) (h :: t) b (by omega) (by simp only [List.length_cons]; omega)
      rw [hfst] at sm
      obtain ⟨n, m, H, hp⟩ : ∃ n m H, partN ((h :: t).length + b.length + 1) (h :: t) b h.lo = (n, m, H) := ⟨_, _, _, rfl⟩
      rw [hp] at cl mn sm
      simp only at mn sm
      obtain rfl : m = 0 := by omega
      obtain rfl : n = 1 := by omega
      have hH : h.hi ≤ H := cl.ia h (by simp)
      obtain rfl : H = h.hi := by omega
      rw [mg_step marks base f (h :: t) b at_ (by simp) 1 0 h.hi (by rw [hfst]; exact hp), hfst]
      simp only [List.take_succ_cons, List.take_zero, List.drop_succ_cons, List.drop_zero]
      rw [mk_one, ih t b h.hi (by simp at hf ⊢; omega) ct cb (fun x hx y hy => hab x (List.mem_cons_of_mem _ hx) y hy)]
      unfold piece
      rw [if_pos (.inl rfl)]; simp [app]
/-- Both did the same. -/
theorem mg_same [DecidableEq α] (marks : List α → List α → List α) (base : List α) (f : Nat) (a : List (Hk α)) (at_ : Nat) (hf : a.length ≤ f) (ca : Ch a) : mg marks base f a a at_ = (app base a at_, 0) := by
  induction f generalizing a at_ with
  | zero =>
    have ha : a = [] := List.length_eq_zero_iff.1 (by omega)
    subst ha
    rw [mg_end]; rfl
  | succ f ih =>
    cases a with
    | nil => rw [mg_end]; rfl
    | cons h t =>
      obtain ⟨ct, hlo, hnx⟩ := ch_tail ca
      have hfst : fst (h :: t) (h :: t) = h.lo := by show min h.lo h.lo = h.lo; omega
      have hnext : ∀ g r, (h :: t).drop 1 = g :: r → h.hi < g.lo := fun g r e => hnx g (by
          have e' : t = g :: r := e
          rw [e']; exact List.mem_cons_self ..)
      have c0 : Closed (h :: t) (h :: t) h.lo 1 1 h.hi := ⟨by simp, by simp, hlo, by simp, by simp, hnext, hnext⟩
      have cl := partN_closed ((h :: t).length + (h :: t).length + 1) (h :: t) (h :: t) h.lo (by omega)
      have mn := partN_min ((h :: t).length + (h :: t).length + 1) _ _ _ _ _ _ c0
      obtain ⟨n, m, H, hp⟩ : ∃ n m H, partN ((h :: t).length + (h :: t).length + 1) (h :: t) (h :: t) h.lo = (n, m, H) := ⟨_, _, _, rfl⟩
      rw [hp] at cl mn
      simp only at mn
      have hn : n = 1 := by
        rcases Nat.eq_zero_or_pos n with q | q
        · subst q
          have := cl.xa h t rfl
          have := cl.le
          simp only at *
          omega
        · omega
      have hm : m = 1 := by
        rcases Nat.eq_zero_or_pos m with q | q
        · subst q
          have := cl.xb h t rfl
          have := cl.le
          simp only at *
          omega
        · omega
      subst hn; subst hm
      have hH : h.hi ≤ H := cl.ia h (by simp)
      obtain rfl : H = h.hi := by omega
      rw [mg_step marks base f (h :: t) (h :: t) at_ (by simp) 1 1 h.hi (by rw [hfst]; exact hp), hfst]
      simp only [List.take_succ_cons, List.take_zero, List.drop_succ_cons, List.drop_zero]
      rw [mk_one, ih t h.hi (by simpa using hf) ct]
      unfold piece
      rw [if_pos (.inr rfl)]; simp [app]
end
end Go.Proofs.Ytpgjjnbepkofdaa
