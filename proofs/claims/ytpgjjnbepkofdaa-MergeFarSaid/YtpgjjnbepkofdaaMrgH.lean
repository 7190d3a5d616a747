/-
  The hunks of the way from one list to another one, plain.
-/
import Derived.Test.YtpgjjnbepkofdaaMrgQ
namespace Go.Proofs.Ytpgjjnbepkofdaa
set_option linter.unusedVariables false
set_option linter.unusedSimpArgs false

structure HS (α : Type) where
  out : List (Hk α)
  at_ : Nat
  to_ : Nat
  kept : Bool
section
variable {α : Type}
def push (s : HS α) : List (Hk α) := if s.kept then s.out ++ [⟨s.at_, s.at_, []⟩] else s.out
def setLast (f : Hk α → Hk α) : List (Hk α) → List (Hk α)
  | [] => []
  | [h] => [f h]
  | h :: g :: t => h :: setLast f (g :: t)
theorem setLast_snoc (f : Hk α → Hk α) (m : List (Hk α)) (h : Hk α) : setLast f (m ++ [h]) = m ++ [f h] := by
  induction m with
  | nil => rfl
  | cons g m ih =>
    cases m with
    | nil => rfl
    | cons k m => show g :: setLast f (k :: m ++ [h]) = _; rw [ih]; rfl
/-- One step, of so many lines. -/
def hstep (b : List α) (s : HS α) (x : St) : HS α :=
  if x.k = 1 then ⟨s.out, s.at_ + x.c, s.to_ + x.c, true⟩
  else if x.k = 2 then ⟨setLast (fun h => ⟨h.lo, s.at_ + x.c, h.ls⟩) (push s), s.at_ + x.c, s.to_, false⟩
  else ⟨setLast (fun h => ⟨h.lo, h.hi, h.ls ++ (b.drop s.to_).take x.c⟩) (push s), s.at_, s.to_ + x.c, false⟩
def hs0 : HS α := ⟨[], 0, 0, true⟩
def foldH (b : List α) (s : HS α) (l : List St) : HS α := l.foldl (hstep b) s
theorem push_ne (s : HS α) (h : s.kept = false → s.out ≠ []) : ∃ m g, push s = m ++ [g] := by
  unfold push
  split
  · exact ⟨_, _, rfl⟩
  · rename_i q
    rcases List.eq_nil_or_concat s.out with e | ⟨m, g, e⟩
    · exact absurd e (h (by simpa using q))
    · exact ⟨m, g, by rw [e, List.concat_eq_append]⟩
/-- A step of more lines is one step behind the other. -/
theorem hstep_more (b : List α) (s : HS α) (k c : Nat) (hc : 1 ≤ c) (h : s.kept = false → s.out ≠ []) : hstep b s ⟨k, c + 1⟩ = hstep b (hstep b s ⟨k, c⟩) ⟨k, 1⟩ := by
  unfold hstep
  by_cases h1 : k = 1
  · rw [if_pos h1, if_pos h1, if_pos h1]; simp only; rw [Nat.add_assoc, Nat.add_assoc]
  · rw [if_neg h1, if_neg h1, if_neg h1]
    obtain ⟨m, g, e⟩ := push_ne s h
    by_cases h2 : k = 2
    · rw [if_pos h2, if_pos h2, if_pos h2, e, setLast_snoc, setLast_snoc]
      have e2 : push (⟨m ++ [⟨g.lo, s.at_ + c, g.ls⟩], s.at_ + c, s.to_, false⟩ : HS α) = m ++ [⟨g.lo, s.at_ + c, g.ls⟩] := rfl
      rw [e2, setLast_snoc]
      simp only
      rw [Nat.add_assoc]
    · rw [if_neg h2, if_neg h2, if_neg h2, e, setLast_snoc, setLast_snoc]
      have e2 : push (⟨m ++ [⟨g.lo, g.hi, g.ls ++ (b.drop s.to_).take c⟩], s.at_, s.to_ + c, false⟩ : HS α) = m ++ [⟨g.lo, g.hi, g.ls ++ (b.drop s.to_).take c⟩] := rfl
      rw [e2, setLast_snoc]
      simp only
      rw [Nat.add_assoc, List.append_assoc, List.take_add, List.drop_drop]
theorem hstep_ne (b : List α) (s : HS α) (x : St) (h : s.kept = false → s.out ≠ []) : (hstep b s x).kept = false → (hstep b s x).out ≠ [] := by
  unfold hstep
  obtain ⟨m, g, e⟩ := push_ne s h
  split
  · intro h2; simp at h2
  · split
    · intro _; rw [e, setLast_snoc]; simp
    · intro _; rw [e, setLast_snoc]; simp
/-- Steps in groups, or each by itself. -/
theorem fold_rep (b : List α) (s : HS α) (k c : Nat) (hc : 1 ≤ c) (h : s.kept = false → s.out ≠ []) : foldH b s ((List.replicate c k).map fun k => ⟨k, 1⟩) = hstep b s ⟨k, c⟩ := by
  induction c with
  | zero => omega
  | succ c ih =>
    rcases Nat.eq_zero_or_pos c with e | e
    · subst e; rfl
    · rw [hstep_more b s k c e h, ← ih e]
      rw [List.replicate_succ', List.map_append]
      unfold foldH
      rw [List.foldl_append]; rfl
theorem fold_expand (b : List α) (l : List St) (s : HS α) (hl : ∀ x ∈ l, 1 ≤ x.c) (h : s.kept = false → s.out ≠ []) : foldH b s ((expand l).map fun k => ⟨k, 1⟩) = foldH b s l := by
  induction l generalizing s with
  | nil => rfl
  | cons x l ih =>
    rw [expand_cons, List.map_append]
    have e1 : foldH b s ((List.replicate x.c x.k).map (fun k => (⟨k, 1⟩ : St)) ++ (expand l).map (fun k => (⟨k, 1⟩ : St))) = foldH b (foldH b s ((List.replicate x.c x.k).map fun k => ⟨k, 1⟩)) ((expand l).map fun k => ⟨k, 1⟩) := by unfold foldH; rw [List.foldl_append]
    rw [e1, fold_rep b s x.k x.c (hl x (List.mem_cons_self ..)) h, ih _ (fun y hy => hl y (List.mem_cons_of_mem _ hy)) (hstep_ne b s _ h)]
    rfl
theorem mk_snoc (base : List α) (hi : Nat) (m : List (Hk α)) (h : Hk α) (lo : Nat) : mkL base hi (m ++ [h]) lo = mkL base h.lo m lo ++ h.ls ++ (base.take hi).drop h.hi := by
  induction m generalizing lo with
  | nil => rfl
  | cons g m ih => rw [List.cons_append, mkL, ih, mkL]; simp only [List.append_assoc]
theorem take_drop_more (l : List α) (i j : Nat) (hij : i ≤ j) (hj : j < l.length) : (l.take (j + 1)).drop i = (l.take j).drop i ++ [l[j]] := by
  rw [List.take_succ_eq_append_getElem hj, List.drop_append_of_le_length (by rw [List.length_take]; omega)]
theorem mk_more (base : List α) (at_ : Nat) (l : List (Hk α)) (lo : Nat) (hlo : l = [] → lo ≤ at_) (hl : ∀ h ∈ l, h.hi ≤ at_) (hat : at_ < base.length) : mkL base (at_ + 1) l lo = mkL base at_ l lo ++ [base[at_]] := by
  rcases List.eq_nil_or_concat l with rfl | ⟨m, h, rfl⟩
  · rw [mkL, mkL]; exact take_drop_more _ _ _ (hlo rfl) hat
  · rw [List.concat_eq_append] at hl ⊢
    rw [mk_snoc, mk_snoc, take_drop_more base h.hi at_ (hl h (by simp)) hat]
    simp only [List.append_assoc]
/-- What holds all along. -/
structure HInv (a b : List α) (p : Nat) (s : HS α) (rest : List Nat) : Prop where
  la : s.at_ ≤ a.length
  lb : s.to_ ≤ b.length
  pa : p ≤ s.at_
  ok : okK rest (a.drop s.at_) (b.drop s.to_)
  ch : Ch s.out
  lo : ∀ h ∈ s.out, p ≤ h.lo ∧ h.hi ≤ s.at_
  kt : s.kept = true → ∀ h ∈ s.out, h.hi + 1 ≤ s.at_
  kf : s.kept = false → ∃ m h, s.out = m ++ [h] ∧ h.hi = s.at_
theorem ch_snoc (m : List (Hk α)) (h : Hk α) : Ch (m ++ [h]) ↔ Ch m ∧ (∀ x ∈ m, x.hi < h.lo) ∧ h.lo ≤ h.hi := by
  unfold Ch
  rw [List.pairwise_append]
  constructor
  · rintro ⟨⟨c1, _, c3⟩, c4⟩
    exact ⟨⟨c1, fun x hx => c4 x (List.mem_append.2 (.inl hx))⟩, fun x hx => c3 x hx h (by simp), c4 h (by simp)⟩
  · rintro ⟨⟨c1, c2⟩, c3, c4⟩
    refine ⟨⟨c1, List.pairwise_singleton _ _, fun x hx y hy => ?_⟩, fun x hx => ?_⟩
    · rw [List.mem_singleton] at hy; subst hy; exact c3 x hx
    · rcases List.mem_append.1 hx with hx | hx
      · exact c2 x hx
      · rw [List.mem_singleton] at hx; subst hx; exact c4
theorem HInv.pushed {a b : List α} {p : Nat} {s : HS α} {rest : List Nat} (h : HInv a b p s rest) : ∃ m g, push s = m ++ [g] ∧ Ch (m ++ [g]) ∧ g.hi = s.at_ ∧ p ≤ g.lo ∧ (∀ x ∈ m, p ≤ x.lo ∧ x.hi + 1 ≤ g.lo) ∧ mkL a s.at_ (m ++ [g]) 0 = mkL a s.at_ s.out 0 := by
  cases hk : s.kept with
  | true =>
    have h1 := h.kt hk
    refine ⟨s.out, ⟨s.at_, s.at_, []⟩, by unfold push; rw [hk]; rfl, ?_, rfl, h.pa, fun x hx => ⟨(h.lo x hx).1, h1 x hx⟩, ?_⟩
    · rw [ch_snoc]; exact ⟨h.ch, fun x hx => by have := h1 x hx; show x.hi < s.at_; omega, Nat.le_refl _⟩
    · rw [mk_snoc, drop_take_self]; simp
  | false =>
    obtain ⟨m, g, e, e2⟩ := h.kf hk
    have hc := h.ch
    rw [e] at hc
    have hl := h.lo
    rw [e] at hl
    refine ⟨m, g, by unfold push; rw [hk, e]; rfl, hc, e2, (hl g (by simp)).1, fun x hx => ⟨(hl x (by simp [hx])).1, ?_⟩, by rw [e]⟩
    have := ((ch_snoc m g).1 hc).2.1 x hx
    omega
theorem hinv_step {a b : List α} {p : Nat} {s : HS α} {k : Nat} {rest : List Nat} (h : HInv a b p s (k :: rest)) (hk : 1 ≤ k ∧ k ≤ 3) (hm : mkL a s.at_ s.out 0 = b.take s.to_) :
    HInv a b p (hstep b s ⟨k, 1⟩) rest ∧ mkL a (hstep b s ⟨k, 1⟩).at_ (hstep b s ⟨k, 1⟩).out 0 = b.take (hstep b s ⟨k, 1⟩).to_ := by
  have hok := h.ok
  have la := h.la
  have lb := h.lb
  obtain ⟨m, g, e1, e2, e3, e4, e5, e6⟩ := h.pushed
  rcases (show k = 1 ∨ k = 2 ∨ k = 3 by omega) with rfl | rfl | rfl
  · -- keep
    rcases Nat.lt_or_ge s.at_ a.length with qa | qa
    · rcases Nat.lt_or_ge s.to_ b.length with qb | qb
      · rw [List.drop_eq_getElem_cons qa, List.drop_eq_getElem_cons qb] at hok
        have heq : a[s.at_] = b[s.to_] := hok.1
        have hst : hstep b s ⟨1, 1⟩ = ⟨s.out, s.at_ + 1, s.to_ + 1, true⟩ := rfl
        rw [hst]
        refine ⟨⟨by show s.at_ + 1 ≤ _; omega, by show s.to_ + 1 ≤ _; omega, by have := h.pa; show p ≤ s.at_ + 1; omega, hok.2, h.ch, fun x hx => ⟨(h.lo x hx).1, by have := (h.lo x hx).2; show x.hi ≤ s.at_ + 1; omega⟩, fun _ x hx => by have := (h.lo x hx).2; show x.hi + 1 ≤ s.at_ + 1; omega, fun hf => by cases hf⟩, ?_⟩
        show mkL a (s.at_ + 1) s.out 0 = b.take (s.to_ + 1)
        rw [mk_more a s.at_ s.out 0 (fun _ => Nat.zero_le _) (fun x hx => (h.lo x hx).2) qa, hm, List.take_succ_eq_append_getElem qb, heq]
      · rw [List.drop_eq_getElem_cons qa, List.drop_eq_nil_of_le qb] at hok; exact absurd hok (by simp [okK])
    · rw [List.drop_eq_nil_of_le qa] at hok; exact absurd hok (by simp [okK])
  · -- drop
    rcases Nat.lt_or_ge s.at_ a.length with qa | qa
    · rw [List.drop_eq_getElem_cons qa] at hok
      have hok2 : okK rest (a.drop (s.at_ + 1)) (b.drop s.to_) := hok
      have hst : hstep b s ⟨2, 1⟩ = ⟨m ++ [⟨g.lo, s.at_ + 1, g.ls⟩], s.at_ + 1, s.to_, false⟩ := by
        have : hstep b s ⟨2, 1⟩ = ⟨setLast (fun h => ⟨h.lo, s.at_ + 1, h.ls⟩) (push s), s.at_ + 1, s.to_, false⟩ := rfl
        rw [this, e1, setLast_snoc]
      rw [hst]
      have c := (ch_snoc m g).1 e2
      refine ⟨⟨by show s.at_ + 1 ≤ _; omega, lb, by have := h.pa; show p ≤ s.at_ + 1; omega, hok2, (ch_snoc _ _).2 ⟨c.1, c.2.1, by have := c.2.2; show g.lo ≤ s.at_ + 1; omega⟩, fun x hx => ?_, fun hf => (by cases hf), fun _ => ⟨m, _, rfl, rfl⟩⟩, ?_⟩
      · rcases List.mem_append.1 hx with hx | hx
        · have := e5 x hx; have := c.2.2; exact ⟨(e5 x hx).1, by show x.hi ≤ s.at_ + 1; omega⟩
        · rw [List.mem_singleton] at hx; subst hx; exact ⟨e4, Nat.le_refl _⟩
      · show mkL a (s.at_ + 1) (m ++ [⟨g.lo, s.at_ + 1, g.ls⟩]) 0 = b.take s.to_
        rw [← hm, ← e6, mk_snoc, mk_snoc, drop_take_self, e3, drop_take_self]
    · rw [List.drop_eq_nil_of_le qa] at hok; exact absurd hok (by simp [okK])
  · -- take
    rcases Nat.lt_or_ge s.to_ b.length with qb | qb
    · rw [List.drop_eq_getElem_cons qb] at hok
      have hok2 : okK rest (a.drop s.at_) (b.drop (s.to_ + 1)) := by
        cases hd : a.drop s.at_ with
        | nil => rw [hd] at hok; exact hok
        | cons z r => rw [hd] at hok; exact hok
      have hone : (b.drop s.to_).take 1 = [b[s.to_]] := by rw [List.drop_eq_getElem_cons qb]; rfl
      have hst : hstep b s ⟨3, 1⟩ = ⟨m ++ [⟨g.lo, g.hi, g.ls ++ [b[s.to_]]⟩], s.at_, s.to_ + 1, false⟩ := by
        have : hstep b s ⟨3, 1⟩ = ⟨setLast (fun h => ⟨h.lo, h.hi, h.ls ++ (b.drop s.to_).take 1⟩) (push s), s.at_, s.to_ + 1, false⟩ := rfl
        rw [this, e1, setLast_snoc, hone]
      rw [hst]
      have c := (ch_snoc m g).1 e2
      refine ⟨⟨la, by show s.to_ + 1 ≤ _; omega, h.pa, hok2, (ch_snoc _ _).2 ⟨c.1, c.2.1, c.2.2⟩, fun x hx => ?_, fun hf => (by cases hf), fun _ => ⟨m, _, rfl, e3⟩⟩, ?_⟩
      · rcases List.mem_append.1 hx with hx | hx
        · have := e5 x hx; have := c.2.2; exact ⟨(e5 x hx).1, by show x.hi ≤ s.at_; omega⟩
        · rw [List.mem_singleton] at hx; subst hx; exact ⟨e4, by show g.hi ≤ s.at_; omega⟩
      · show mkL a s.at_ (m ++ [⟨g.lo, g.hi, g.ls ++ [b[s.to_]]⟩]) 0 = b.take (s.to_ + 1)
        rw [List.take_succ_eq_append_getElem qb, ← hm, ← e6, mk_snoc, mk_snoc, e3, drop_take_self]
        simp
    · rw [List.drop_eq_nil_of_le qb] at hok
      cases hd : a.drop s.at_ with
      | nil => rw [hd] at hok; exact absurd hok (by simp [okK])
      | cons z r => rw [hd] at hok; exact absurd hok (by simp [okK])
theorem hinv_fold {a b : List α} {p : Nat} (ks : List Nat) : ∀ (s : HS α) (rest : List Nat), HInv a b p s (ks ++ rest) → (∀ k ∈ ks, 1 ≤ k ∧ k ≤ 3) → mkL a s.at_ s.out 0 = b.take s.to_ →
    HInv a b p (foldH b s (ks.map fun k => ⟨k, 1⟩)) rest ∧ mkL a (foldH b s (ks.map fun k => ⟨k, 1⟩)).at_ (foldH b s (ks.map fun k => ⟨k, 1⟩)).out 0 = b.take (foldH b s (ks.map fun k => ⟨k, 1⟩)).to_ := by
  induction ks with
  | nil => intro s rest h _ hm; exact ⟨h, hm⟩
  | cons k ks ih =>
    intro s rest h hk hm
    obtain ⟨h1, h2⟩ := hinv_step (rest := ks ++ rest) h (hk k (List.mem_cons_self ..)) hm
    exact ih _ rest h1 (fun x hx => hk x (List.mem_cons_of_mem _ hx)) h2
end
section
variable {α : Type} [DecidableEq α]
/-- The hunks from one list to another one. -/
def hunksOf (a b : List α) : List (Hk α) := (foldH b hs0 (steps (way a b))).out
theorem hunksOf_single (a b : List α) : hunksOf a b = (foldH b hs0 ((way a b).map fun k => ⟨k, 1⟩)).out := by
  unfold hunksOf
  have h := fold_expand b (steps (way a b)) (hs0 (α := α)) (fun x hx => by
    obtain ⟨i, hi, rfl⟩ := List.getElem_of_mem hx
    exact (grp_at _ (grp_steps _) i hi).1) (fun h => by cases h)
  rw [expand_steps] at h
  rw [h]
theorem hs0_inv (a b : List α) : HInv a b 0 hs0 (way a b) := ⟨Nat.zero_le _, Nat.zero_le _, Nat.le_refl _, by
  show okK _ (a.drop 0) (b.drop 0)
  rw [List.drop_zero, List.drop_zero]
  exact way_ok _ a b (Nat.le_refl _), ⟨List.Pairwise.nil, by simp [hs0]⟩, by simp [hs0], by simp [hs0], fun h => by cases h⟩
/-- In order; and what they make of the first list is the other one. -/
theorem hunks_ok (a b : List α) : Ch (hunksOf a b) ∧ app a (hunksOf a b) 0 = b ∧ ∀ h ∈ hunksOf a b, h.hi ≤ a.length := by
  have h := hinv_fold (p := 0) (way a b) hs0 [] (by rw [List.append_nil]; exact hs0_inv a b) (way_kind _ a b (Nat.le_refl _)) rfl
  rw [hunksOf_single]
  generalize foldH b hs0 ((way a b).map fun k => (⟨k, 1⟩ : St)) = s at *
  obtain ⟨h1, h2⟩ := h
  have h3 : a.drop s.at_ = [] ∧ b.drop s.to_ = [] := h1.ok
  have e1 : a.length ≤ s.at_ := List.drop_eq_nil_iff.1 h3.1
  have e2 : b.length ≤ s.to_ := List.drop_eq_nil_iff.1 h3.2
  have := h1.la
  have := h1.lb
  refine ⟨h1.ch, ?_, fun x hx => by have := (h1.lo x hx).2; omega⟩
  rw [app_mk, show a.length = s.at_ by omega, h2, List.take_of_length_le (by omega)]
theorem way_self (a : List α) : way a a = List.replicate a.length 1 := by
  induction a with
  | nil => unfold way; rfl
  | cons x a ih => unfold way; rw [if_pos rfl, ih]; rfl
omit [DecidableEq α] in
theorem fold_keeps (b : List α) (s : HS α) (n : Nat) : (foldH b s ((List.replicate n 1).map fun k => ⟨k, 1⟩)).out = s.out ∧ (foldH b s ((List.replicate n 1).map fun k => ⟨k, 1⟩)).at_ = s.at_ + n ∧ (foldH b s ((List.replicate n 1).map fun k => ⟨k, 1⟩)).to_ = s.to_ + n := by
  induction n generalizing s with
  | zero => exact ⟨rfl, rfl, rfl⟩
  | succ n ih =>
    have e : foldH b s ((List.replicate (n + 1) 1).map fun k => (⟨k, 1⟩ : St)) = foldH b ⟨s.out, s.at_ + 1, s.to_ + 1, true⟩ ((List.replicate n 1).map fun k => ⟨k, 1⟩) := rfl
    rw [e]
    have := ih ⟨s.out, s.at_ + 1, s.to_ + 1, true⟩
    simp only at this
    refine ⟨this.1, by rw [this.2.1]; omega, by rw [this.2.2]; omega⟩
theorem hunks_self (a : List α) : hunksOf a a = [] := by
  rw [hunksOf_single, way_self]
  exact (fold_keeps a hs0 a.length).1
theorem way_head (h a b : List α) : way (h ++ a) (h ++ b) = List.replicate h.length 1 ++ way a b := by
  induction h with
  | nil => rfl
  | cons x h ih => rw [List.cons_append, List.cons_append]; conv => lhs; unfold way
                   rw [if_pos rfl, ih]; rfl
theorem way_nil_left (b : List α) : way [] b = List.replicate b.length 3 := by
  induction b with
  | nil => unfold way; rfl
  | cons y b ih => unfold way; rw [ih]; rfl
theorem way_nil_right (a : List α) : way a [] = List.replicate a.length 2 := by
  induction a with
  | nil => unfold way; rfl
  | cons x a ih => unfold way; rw [ih]; rfl
theorem dc_ge (a b : List α) : b.length ≤ Dc.dc a b + a.length := by
  induction a generalizing b with
  | nil => rw [Dc.dc_nil]; simp
  | cons x a ih => have := ih b; have := Dc.dc_undel x a b; rw [List.length_cons]; omega
/-- A line that is nowhere else is kept, and what is behind it. -/
theorem way_tail (z : α) (T : List α) : ∀ (n : Nat) (h u : List α), h.length + u.length ≤ n → z ∉ h → z ∉ u → way (h ++ z :: T) (u ++ z :: T) = way h u ++ List.replicate (T.length + 1) 1
  | n, [], [], _, _, _ => by
    rw [List.nil_append, way_self]
    have : way ([] : List α) [] = [] := by unfold way; rfl
    rw [this]; rfl
  | 0, x :: h, u, hn, _, _ => by simp at hn
  | 0, [], y :: u, hn, _, _ => by simp at hn
  | n + 1, [], y :: u, hn, hz, hu => by
    have hzy : ¬ z = y := fun e => hu (by rw [e]; exact List.mem_cons_self ..)
    have ih := way_tail z T n [] u (by simp at hn ⊢; omega) (by simp) (fun h => hu (List.mem_cons_of_mem _ h))
    rw [List.nil_append] at ih ⊢
    rw [List.cons_append]
    have hd : ¬ Dc.dc T (y :: (u ++ z :: T)) + 1 = Dc.dc (z :: T) (y :: (u ++ z :: T)) := by
      have h1 := dc_ge T (y :: (u ++ z :: T))
      have h2 : Dc.dc (z :: T) (y :: (u ++ z :: T)) = u.length + 1 := by
        have := Dc.dc_tail (z :: T) [] (y :: u)
        rw [List.nil_append, List.cons_append, Dc.dc_nil] at this
        rw [this]; rfl
      simp only [List.length_cons, List.length_append] at h1
      omega
    have e1 : way (z :: T) (y :: (u ++ z :: T)) = 3 :: way (z :: T) (u ++ z :: T) := by
      conv => lhs; unfold way
      rw [if_neg hzy, if_neg hd]
    have e2 : way ([] : List α) (y :: u) = 3 :: way [] u := by conv => lhs; unfold way
    rw [e1, e2, ih]; rfl
  | n + 1, x :: h, [], hn, hz, hu => by
    have hxz : ¬ x = z := fun e => hz (by rw [e]; exact List.mem_cons_self ..)
    have ih := way_tail z T n h [] (by simp at hn ⊢; omega) (fun k => hz (List.mem_cons_of_mem _ k)) (by simp)
    rw [List.nil_append] at ih ⊢
    rw [List.cons_append]
    have hd : Dc.dc (h ++ z :: T) (z :: T) + 1 = Dc.dc (x :: (h ++ z :: T)) (z :: T) := by
      have h1 := Dc.dc_tail (z :: T) h []
      have h2 := Dc.dc_tail (z :: T) (x :: h) []
      rw [List.nil_append, Dc.dc_nil_right] at h1
      rw [List.nil_append, Dc.dc_nil_right, List.cons_append] at h2
      rw [h1, h2]; rfl
    have e1 : way (x :: (h ++ z :: T)) (z :: T) = 2 :: way (h ++ z :: T) (z :: T) := by
      conv => lhs; unfold way
      rw [if_neg hxz, if_pos hd]
    have e2 : way (x :: h) ([] : List α) = 2 :: way h [] := by conv => lhs; unfold way
    rw [e1, e2, ih]; rfl
  | n + 1, x :: h, y :: u, hn, hz, hu => by
    simp only [List.length_cons] at hn
    have hz' : z ∉ h := fun k => hz (List.mem_cons_of_mem _ k)
    have hu' : z ∉ u := fun k => hu (List.mem_cons_of_mem _ k)
    rw [List.cons_append, List.cons_append]
    by_cases e : x = y
    · have ih := way_tail z T n h u (by omega) hz' hu'
      conv => lhs; unfold way
      conv => rhs; lhs; unfold way
      rw [if_pos e, if_pos e, ih]; rfl
    · have k1 := Dc.dc_tail (z :: T) h (y :: u)
      have k2 := Dc.dc_tail (z :: T) (x :: h) (y :: u)
      rw [List.cons_append] at k1
      rw [List.cons_append, List.cons_append] at k2
      conv => lhs; unfold way
      conv => rhs; lhs; unfold way
      rw [if_neg e, if_neg e, k1, k2]
      split
      · have ih := way_tail z T n h (y :: u) (by simp; omega) hz' hu
        rw [List.cons_append] at ih
        rw [ih]; rfl
      · have ih := way_tail z T n (x :: h) u (by simp; omega) hz hu'
        rw [List.cons_append] at ih
        rw [ih]; rfl
end
end Go.Proofs.Ytpgjjnbepkofdaa
