/-
  Plain mathematics: the way from one list to another one (keep, drop, take), its steps in groups, and what they make of the first list. No program is spoken of here.
-/
import Derived.Test.YtpgjjnbepkofdaaDc
namespace Go.Proofs.Ytpgjjnbepkofdaa
set_option linter.unusedVariables false

structure St where
  k : Nat
  c : Nat
section
variable {α : Type} [DecidableEq α]
/-- The single steps: 1 keep, 2 drop, 3 take. -/
def way : List α → List α → List Nat
  | [], [] => []
  | [], _ :: b => 3 :: way [] b
  | _ :: a, [] => 2 :: way a []
  | x :: a, y :: b => if x = y then 1 :: way a b else if Dc.dc a (y :: b) + 1 = Dc.dc (x :: a) (y :: b) then 2 :: way a (y :: b) else 3 :: way (x :: a) b
termination_by a b => a.length + b.length
/-- What single steps are good for. -/
def okK : List Nat → List α → List α → Prop
  | [], a, b => a = [] ∧ b = []
  | 1 :: ks, x :: a, y :: b => x = y ∧ okK ks a b
  | 2 :: ks, _ :: a, b => okK ks a b
  | 3 :: ks, a, _ :: b => okK ks a b
  | _, _, _ => False
theorem way_ok : ∀ (n : Nat) (a b : List α), a.length + b.length ≤ n → okK (way a b) a b
  | n, [], [], _ => by unfold way; exact ⟨rfl, rfl⟩
  | 0, _ :: _, _, h => by simp at h
  | 0, [], _ :: _, h => by simp at h
  | n + 1, [], y :: b, h => by unfold way; exact way_ok n [] b (by simp at h ⊢; omega)
  | n + 1, x :: a, [], h => by unfold way; exact way_ok n a [] (by simp at h ⊢; omega)
  | n + 1, x :: a, y :: b, h => by
    simp only [List.length_cons] at h
    unfold way
    by_cases e : x = y
    · rw [if_pos e]; exact ⟨e, way_ok n a b (by omega)⟩
    · rw [if_neg e]
      split
      · exact way_ok n a (y :: b) (by simp; omega)
      · exact way_ok n (x :: a) b (by simp; omega)
/-- How many lines single steps drop and take. -/
def cst (ks : List Nat) : Nat := ks.countP (fun k => decide (k ≠ 1))
theorem way_cost : ∀ (n : Nat) (a b : List α), a.length + b.length ≤ n → cst (way a b) = Dc.dc a b
  | n, [], [], _ => by unfold way; rfl
  | 0, _ :: _, _, h => by simp at h
  | 0, [], _ :: _, h => by simp at h
  | n + 1, [], y :: b, h => by
    have := way_cost n [] b (by simp at h ⊢; omega)
    unfold way; unfold cst at this ⊢
    rw [List.countP_cons, this, Dc.dc_nil, Dc.dc_nil]; simp
  | n + 1, x :: a, [], h => by
    have := way_cost n a [] (by simp at h ⊢; omega)
    unfold way; unfold cst at this ⊢
    rw [List.countP_cons, this, Dc.dc_nil_right, Dc.dc_nil_right]; simp
  | n + 1, x :: a, y :: b, h => by
    simp only [List.length_cons] at h
    unfold way
    by_cases e : x = y
    · subst e
      rw [if_pos rfl, Dc.dc_keep, ← way_cost n a b (by omega)]
      unfold cst; rw [List.countP_cons]; simp
    · rw [if_neg e]
      have hd := Dc.dc_cons x y a b
      rw [if_neg e] at hd
      split
      · rename_i h1
        have := way_cost n a (y :: b) (by simp; omega)
        unfold cst at this ⊢
        rw [List.countP_cons, this]; simp; omega
      · rename_i h1
        have := way_cost n (x :: a) b (by simp; omega)
        unfold cst at this ⊢
        rw [List.countP_cons, this]; simp; omega
theorem way_len : ∀ (n : Nat) (a b : List α), a.length + b.length ≤ n → (way a b).length ≤ a.length + b.length
  | n, [], [], _ => by unfold way; simp
  | 0, _ :: _, _, h => by simp at h
  | 0, [], _ :: _, h => by simp at h
  | n + 1, [], y :: b, h => by have := way_len n [] b (by simp at h ⊢; omega); unfold way; simp at this ⊢; omega
  | n + 1, x :: a, [], h => by have := way_len n a [] (by simp at h ⊢; omega); unfold way; simp at this ⊢; omega
  | n + 1, x :: a, y :: b, h => by
    simp only [List.length_cons] at h
    unfold way
    by_cases e : x = y
    · rw [if_pos e]; have := way_len n a b (by omega); simp; omega
    · rw [if_neg e]
      split
      · have := way_len n a (y :: b) (by simp; omega); simp at this ⊢; omega
      · have := way_len n (x :: a) b (by simp; omega); simp at this ⊢; omega
theorem way_kind : ∀ (n : Nat) (a b : List α), a.length + b.length ≤ n → ∀ k ∈ way a b, 1 ≤ k ∧ k ≤ 3
  | n, [], [], _ => by unfold way; simp
  | 0, _ :: _, _, h => by simp at h
  | 0, [], _ :: _, h => by simp at h
  | n + 1, [], y :: b, h => by have := way_kind n [] b (by simp at h ⊢; omega); unfold way; simpa using this
  | n + 1, x :: a, [], h => by have := way_kind n a [] (by simp at h ⊢; omega); unfold way; simpa using this
  | n + 1, x :: a, y :: b, h => by
    simp only [List.length_cons] at h
    unfold way
    by_cases e : x = y
    · rw [if_pos e]; have := way_kind n a b (by omega); simpa using this
    · rw [if_neg e]
      split
      · have := way_kind n a (y :: b) (by simp; omega); simpa using this
      · have := way_kind n (x :: a) b (by simp; omega); simpa using this
end

/-- Steps in groups. -/
def addS (l : List St) (k : Nat) : List St :=
  match l.getLast? with
  | some s => if s.k = k then l.dropLast ++ [⟨k, s.c + 1⟩] else l ++ [⟨k, 1⟩]
  | none => l ++ [⟨k, 1⟩]
def steps (ks : List Nat) : List St := ks.foldl addS []
def expand (l : List St) : List Nat := l.flatMap fun s => List.replicate s.c s.k
theorem addS_nil (k : Nat) : addS [] k = [⟨k, 1⟩] := rfl
theorem addS_snoc (l : List St) (s : St) (k : Nat) : addS (l ++ [s]) k = if s.k = k then l ++ [⟨k, s.c + 1⟩] else l ++ [s] ++ [⟨k, 1⟩] := by
  unfold addS; simp
theorem steps_snoc (ks : List Nat) (k : Nat) : steps (ks ++ [k]) = addS (steps ks) k := by simp [steps]
theorem snoc_cases (l : List St) : l = [] ∨ ∃ m s, l = m ++ [s] := by
  rcases List.eq_nil_or_concat l with h | ⟨m, s, h⟩
  · exact .inl h
  · exact .inr ⟨m, s, by simpa using h⟩
theorem expand_add (l : List St) (k : Nat) : expand (addS l k) = expand l ++ [k] := by
  rcases snoc_cases l with rfl | ⟨m, s, rfl⟩
  · simp [addS_nil, expand]
  · rw [addS_snoc]
    by_cases h : s.k = k
    · rw [if_pos h]; simp [expand, List.replicate_succ', h]
    · rw [if_neg h]; simp [expand]
theorem expand_steps (ks : List Nat) : expand (steps ks) = ks := by
  have key : ∀ (ks : List Nat) (l : List St), expand (ks.foldl addS l) = expand l ++ ks := by
    intro ks
    induction ks with
    | nil => intro l; simp
    | cons k ks ih => intro l; rw [List.foldl_cons, ih, expand_add]; simp
  have := key ks []
  simpa [steps, expand] using this
/-- Groups: none empty, none beside one of its kind. -/
def grp : List St → Prop
  | [] => True
  | [s] => 1 ≤ s.c
  | s :: t :: l => 1 ≤ s.c ∧ s.k ≠ t.k ∧ grp (t :: l)
theorem grp_snoc2 (l : List St) (s t : St) : grp (l ++ [s, t]) ↔ grp (l ++ [s]) ∧ s.k ≠ t.k ∧ 1 ≤ t.c := by
  induction l with
  | nil => simp [grp]
  | cons u l ih =>
    cases l with
    | nil => simp only [List.nil_append, List.cons_append, grp]; exact ⟨fun h => ⟨⟨h.1, h.2.1, h.2.2.1⟩, h.2.2.2⟩, fun h => ⟨h.1.1, h.1.2.1, h.1.2.2, h.2⟩⟩
    | cons v l => simp only [List.cons_append, grp] at ih ⊢; exact ⟨fun h => ⟨⟨h.1, h.2.1, (ih.1 h.2.2).1⟩, (ih.1 h.2.2).2⟩, fun h => ⟨h.1.1, h.1.2.1, ih.2 ⟨h.1.2.2, h.2⟩⟩⟩
theorem grp_last (l : List St) (s t : St) (hk : s.k = t.k) (hc : 1 ≤ t.c) (h : grp (l ++ [s])) : grp (l ++ [t]) := by
  rcases snoc_cases l with rfl | ⟨m, u, rfl⟩
  · exact hc
  · rw [List.append_assoc] at h ⊢
    have h1 := (grp_snoc2 m u s).1 h
    exact (grp_snoc2 m u t).2 ⟨h1.1, by rw [← hk]; exact h1.2.1, hc⟩
theorem grp_add (l : List St) (k : Nat) (h : grp l) : grp (addS l k) := by
  rcases snoc_cases l with rfl | ⟨m, s, rfl⟩
  · rw [addS_nil]; exact Nat.le_refl 1
  · rw [addS_snoc]
    by_cases e : s.k = k
    · rw [if_pos e]; exact grp_last m s _ e (by simp) h
    · rw [if_neg e, List.append_assoc]; exact (grp_snoc2 m s _).2 ⟨h, e, Nat.le_refl 1⟩
theorem grp_steps (ks : List Nat) : grp (steps ks) := by
  have key : ∀ (ks : List Nat) (l : List St), grp l → grp (ks.foldl addS l) := by
    intro ks
    induction ks with
    | nil => intro l h; exact h
    | cons k ks ih => intro l h; rw [List.foldl_cons]; exact ih _ (grp_add l k h)
  exact key ks [] trivial
theorem grp_at (l : List St) (h : grp l) (i : Nat) (hi : i < l.length) : 1 ≤ l[i].c ∧ ∀ hj : i + 1 < l.length, l[i].k ≠ l[i + 1].k := by
  induction l generalizing i with
  | nil => simp at hi
  | cons s l ih =>
    cases l with
    | nil =>
      have : i = 0 := by simp at hi; omega
      subst this
      exact ⟨h, fun hj => by simp at hj⟩
    | cons t l =>
      obtain ⟨h1, h2, h3⟩ := h
      cases i with
      | zero => exact ⟨h1, fun _ => h2⟩
      | succ i =>
        have := ih h3 i (by simpa using hi)
        exact ⟨this.1, fun hj => this.2 (by simpa using hj)⟩
def total (l : List St) : Nat := (expand l).length
theorem total_cons (s : St) (l : List St) : total (s :: l) = s.c + total l := by simp [total, expand]
theorem expand_cons (s : St) (l : List St) : expand (s :: l) = List.replicate s.c s.k ++ expand l := by simp [expand]
theorem grp_len (l : List St) (h : grp l) : l.length ≤ total l := by
  induction l with
  | nil => simp
  | cons s l ih =>
    rw [total_cons]
    cases l with
    | nil => have : 1 ≤ s.c := h; simp; omega
    | cons t l => obtain ⟨h1, h2, h3⟩ := h; have := ih h3; simp at this ⊢; omega
section
variable {α : Type}
theorem ok_rep1 (c : Nat) (ks : List Nat) : ∀ (a b : List α), okK (List.replicate c 1 ++ ks) a b → c ≤ a.length ∧ c ≤ b.length ∧ a.take c = b.take c ∧ okK ks (a.drop c) (b.drop c) := by
  induction c with
  | zero => intro a b h; exact ⟨by omega, by omega, by simp, by simpa using h⟩
  | succ c ih =>
    intro a b h
    rw [List.replicate_succ, List.cons_append] at h
    cases a with
    | nil => cases b <;> exact h.elim
    | cons x a =>
      cases b with
      | nil => exact h.elim
      | cons y b =>
        obtain ⟨rfl, h⟩ := h
        obtain ⟨h1, h2, h3, h4⟩ := ih a b h
        exact ⟨by simp; omega, by simp; omega, by simp [h3], by simpa using h4⟩
theorem ok_rep2 (c : Nat) (ks : List Nat) : ∀ (a b : List α), okK (List.replicate c 2 ++ ks) a b → c ≤ a.length ∧ okK ks (a.drop c) b := by
  induction c with
  | zero => intro a b h; exact ⟨by omega, by simpa using h⟩
  | succ c ih =>
    intro a b h
    rw [List.replicate_succ, List.cons_append] at h
    cases a with
    | nil => cases b <;> exact h.elim
    | cons x a =>
      have h' : okK (List.replicate c 2 ++ ks) a b := by cases b <;> exact h
      obtain ⟨h1, h2⟩ := ih a b h'
      exact ⟨by simp; omega, by simpa using h2⟩
theorem ok_rep3 (c : Nat) (ks : List Nat) : ∀ (a b : List α), okK (List.replicate c 3 ++ ks) a b → c ≤ b.length ∧ okK ks a (b.drop c) := by
  induction c with
  | zero => intro a b h; exact ⟨by omega, by simpa using h⟩
  | succ c ih =>
    intro a b h
    rw [List.replicate_succ, List.cons_append] at h
    cases b with
    | nil => cases a <;> exact h.elim
    | cons x b =>
      have h' : okK (List.replicate c 3 ++ ks) a b := by cases a <;> exact h
      obtain ⟨h1, h2⟩ := ih a b h'
      exact ⟨by simp; omega, by simpa using h2⟩
end
theorem expand_append (l m : List St) : expand (l ++ m) = expand l ++ expand m := by simp [expand]
theorem steps_kind (ks : List Nat) (h : ∀ k ∈ ks, 1 ≤ k ∧ k ≤ 3) : ∀ s ∈ steps ks, 1 ≤ s.k ∧ s.k ≤ 3 := by
  have key : ∀ (ks : List Nat) (l : List St), (∀ k ∈ ks, 1 ≤ k ∧ k ≤ 3) → (∀ s ∈ l, 1 ≤ s.k ∧ s.k ≤ 3) → ∀ s ∈ ks.foldl addS l, 1 ≤ s.k ∧ s.k ≤ 3 := by
    intro ks
    induction ks with
    | nil => intro l _ hl; exact hl
    | cons k ks ih =>
      intro l hk hl
      rw [List.foldl_cons]
      refine ih _ (fun k' hk' => hk k' (by simp [hk'])) ?_
      have h1 := hk k (by simp)
      rcases snoc_cases l with rfl | ⟨m, s, rfl⟩
      · rw [addS_nil]; intro s hs; simp at hs; subst hs; exact h1
      · rw [addS_snoc]
        split
        · intro t ht
          rcases List.mem_append.1 ht with ht | ht
          · exact hl t (by simp [ht])
          · simp at ht; subst ht; exact h1
        · intro t ht
          rcases List.mem_append.1 ht with ht | ht
          · exact hl t ht
          · simp at ht; subst ht; exact h1
  exact key ks [] h (by simp)
end Go.Proofs.Ytpgjjnbepkofdaa
