/-
  The plain mathematics of lines of words: free columns, the fewest lines, the least cost. No Go and no program is spoken of here.
-/
import Derived.Test.YtifjahfolmhhpaaWrapG
namespace Go.Proofs.Ytifjahfolmhhpaa
set_option linter.unusedVariables false

/-- The free columns of a line of words. -/
def lf (w : Int) (l : List Int) : Int := w + 1 - (l.map (· + 1)).sum
theorem lf_nil (w : Int) : lf w [] = w + 1 := by simp [lf]
theorem lf_snoc (w : Int) (l : List Int) (n : Int) : lf w (l ++ [n]) = lf w l - (n + 1) := by simp [lf]; omega
theorem lf_le (w : Int) (l : List Int) (h : ∀ n ∈ l, 1 ≤ n) : lf w l ≤ w + 1 := by
  induction l with
  | nil => simp [lf]
  | cons n l ih => have h1 := h n (by simp); have := ih (fun m hm => h m (by simp [hm])); simp [lf] at *; omega
theorem lf_le2 (w : Int) (l : List Int) (h : ∀ n ∈ l, 1 ≤ n) (hl : l ≠ []) : lf w l ≤ w - 1 := by
  cases l with
  | nil => exact absurd rfl hl
  | cons n l => have h1 := h n (by simp); have := lf_le w l (fun m hm => h m (by simp [hm])); simp [lf] at *; omega
/-- All lines have words, and fit. -/
def Fit (w : Int) (ls : List (List Int)) : Prop := ∀ l ∈ ls, l ≠ [] ∧ 0 ≤ lf w l
def sts : Nat → List (List Int) → List Nat
  | _, [] => []
  | i, l :: r => i :: sts (i + l.length) r
theorem sts_len (ls : List (List Int)) : ∀ i, (sts i ls).length = ls.length := by
  induction ls with
  | nil => intro i; rfl
  | cons l r ih => intro i; simp [sts, ih]
theorem sts_append (a b : List (List Int)) : ∀ i, sts i (a ++ b) = sts i a ++ sts (i + a.flatten.length) b := by
  induction a with
  | nil => intro i; simp [sts]
  | cons l r ih => intro i; simp [sts, ih, Nat.add_assoc]
def pcost (w : Int) : List (List Int) → Int
  | [] => 0
  | [_] => 0
  | l :: m :: r => lf w l * lf w l + pcost w (m :: r)
def ssq (w : Int) (ls : List (List Int)) : Int := (ls.map fun l => lf w l * lf w l).sum
theorem pcost_append (w : Int) (a : List (List Int)) (m : List Int) (r : List (List Int)) : pcost w (a ++ m :: r) = ssq w a + pcost w (m :: r) := by
  induction a with
  | nil => simp [ssq]
  | cons l a ih =>
    cases a with
    | nil => simp [pcost, ssq]
    | cons l2 a => simp only [List.cons_append, pcost] at ih ⊢; rw [ih]; simp [ssq]; omega
theorem pcost_nonneg (w : Int) (ls : List (List Int)) : 0 ≤ pcost w ls := by
  induction ls with
  | nil => simp [pcost]
  | cons l r ih =>
    cases r with
    | nil => simp [pcost]
    | cons m r =>
      have h2 : 0 ≤ lf w l * lf w l := by
        rcases Int.le_total 0 (lf w l) with h | h
        · exact Int.mul_nonneg h h
        · exact Int.mul_nonneg_of_nonpos_of_nonpos h h
      simp only [pcost]; omega
/-- Greedy lines as lines: the line as it stands, the words that are left. -/
def gp (w : Int) : List Int → List Int → List (List Int)
  | cur, [] => [cur]
  | cur, n :: l => if n > lf w cur - 1 then cur :: gp w [n] l else gp w (cur ++ [n]) l
theorem gp_flat (w : Int) (l : List Int) : ∀ cur, (gp w cur l).flatten = cur ++ l := by
  induction l with
  | nil => intro cur; simp [gp]
  | cons n l ih =>
    intro cur
    by_cases h : n > lf w cur - 1
    · simp [gp, h, ih]
    · simp [gp, h, ih]
theorem gp_fit (w : Int) (l : List Int) (hl : ∀ n ∈ l, n ≤ w) : ∀ cur, cur ≠ [] → 0 ≤ lf w cur → Fit w (gp w cur l) := by
  induction l with
  | nil => intro cur h1 h2 x hx; simp [gp] at hx; subst hx; exact ⟨h1, h2⟩
  | cons n l ih =>
    intro cur h1 h2
    have hn := hl n (by simp)
    by_cases h : n > lf w cur - 1
    · simp only [gp, if_pos h]
      intro x hx
      rcases List.mem_cons.1 hx with rfl | hx
      · exact ⟨h1, h2⟩
      · exact ih (fun m hm => hl m (by simp [hm])) [n] (by simp) (by simp [lf]; omega) x hx
    · simp only [gp, if_neg h]
      exact ih (fun m hm => hl m (by simp [hm])) _ (by simp) (by rw [lf_snoc]; omega)
theorem gp_sts (w : Int) (l : List Int) : ∀ cur i, sts i (gp w cur l) = i :: gr w (lf w cur) (i + cur.length) l := by
  induction l with
  | nil => intro cur i; simp [gp, sts, gr]
  | cons n l ih =>
    intro cur i
    by_cases h : n > lf w cur - 1
    · simp only [gp, if_pos h, sts, gr, ih]
      have e : w - n = lf w [n] := by simp [lf]; omega
      rw [e]; simp
    · simp only [gp, if_neg h, gr, ih, lf_snoc]
      simp; congr 1
/-- The lines of greedy. -/
def gls (w : Int) : List Int → List (List Int)
  | [] => []
  | n :: l => gp w [n] l
theorem gls_flat (w : Int) (ws : List Int) : (gls w ws).flatten = ws := by
  cases ws with
  | nil => rfl
  | cons n l => simp [gls, gp_flat]
theorem gls_fit (w : Int) (ws : List Int) (h : ∀ n ∈ ws, 1 ≤ n ∧ n ≤ w) : Fit w (gls w ws) := by
  cases ws with
  | nil => intro x hx; simp [gls] at hx
  | cons n l =>
    have hn := h n (by simp)
    exact gp_fit w l (fun m hm => (h m (by simp [hm])).2) [n] (by simp) (by simp [lf]; omega)
theorem gls_sts (w : Int) (ws : List Int) (h : ∀ n ∈ ws, 1 ≤ n ∧ n ≤ w) : sts 0 (gls w ws) = gr w (-1) 0 ws := by
  cases ws with
  | nil => rfl
  | cons n l =>
    have hn := h n (by simp)
    simp only [gls, gp_sts, gr, if_pos (show n > -1 - 1 by omega)]
    have e : lf w [n] = w - n := by simp [lf]; omega
    rw [e]; rfl
/-- More room, no more lines; and one line more at most where there is less. -/
theorem gr_mono (w : Int) (l : List Int) (hl : ∀ n ∈ l, 1 ≤ n) : ∀ (f f' : Int) (i j : Nat), f ≤ f' → f' ≤ w → (gr w f' j l).length ≤ (gr w f i l).length ∧ (gr w f i l).length ≤ (gr w f' j l).length + 1 := by
  induction l with
  | nil => intro f f' i j _ _; simp [gr]
  | cons n l ih =>
    intro f f' i j h1 h2
    have hn := hl n (by simp)
    have ih' := ih (fun m hm => hl m (by simp [hm]))
    by_cases hf : n > f - 1 <;> by_cases hf' : n > f' - 1
    · have := ih' (w - n) (w - n) (i + 1) (j + 1) (by omega) (by omega)
      have t2 := ih' (w - n) (w - n) (j + 1) (i + 1) (by omega) (by omega)
      simp only [gr, if_pos hf, if_pos hf', List.length_cons]; omega
    · have := ih' (f' - (n + 1)) (w - n) (j + 1) (i + 1) (by omega) (by omega)
      simp only [gr, if_pos hf, if_neg hf', List.length_cons]; omega
    · omega
    · have := ih' (f - (n + 1)) (f' - (n + 1)) (i + 1) (j + 1) (by omega) (by omega)
      simp only [gr, if_neg hf, if_neg hf']; omega
theorem gr_line (w : Int) (l : List Int) (hl : ∀ n ∈ l, 1 ≤ n) (r : List Int) : ∀ (cur : List Int) (i : Nat), 0 ≤ lf w (cur ++ l) → (gr w (lf w cur) i (l ++ r)).length = (gr w (lf w (cur ++ l)) (i + l.length) r).length := by
  induction l with
  | nil => intro cur i _; simp
  | cons n l ih =>
    intro cur i h
    have e : cur ++ n :: l = (cur ++ [n]) ++ l := by simp
    rw [e] at h ⊢
    have h2 : lf w (cur ++ [n] ++ l) ≤ lf w (cur ++ [n]) := by
      have h3 := lf_le w l (fun m hm => hl m (by simp [hm]))
      simp [lf] at h3 ⊢; omega
    have h4 : ¬ n > lf w cur - 1 := by rw [lf_snoc] at h2; omega
    have := ih (fun m hm => hl m (by simp [hm])) (cur ++ [n]) (i + 1) h
    simp only [List.cons_append, gr, if_neg h4]
    rw [← lf_snoc, this]; simp only [List.length_cons]; congr 2; omega
/-- Greedy lines are the fewest. -/
theorem gr_fewest (w : Int) (ls : List (List Int)) (hp : ∀ n ∈ ls.flatten, 1 ≤ n) (hf : Fit w ls) : ∀ i, (gr w (-1) i ls.flatten).length ≤ ls.length := by
  induction ls with
  | nil => intro i; simp [gr]
  | cons l r ih =>
    intro i
    obtain ⟨h1, h2⟩ := hf l (by simp)
    have hpl : ∀ n ∈ l, 1 ≤ n := fun n hn => hp n (by simp [hn])
    have hpr : ∀ n ∈ r.flatten, 1 ≤ n := fun n hn => hp n (by rw [List.flatten_cons]; exact List.mem_append_right _ hn)
    have ih' := ih hpr (fun x hx => hf x (by simp [hx]))
    cases l with
    | nil => exact absurd rfl h1
    | cons n l =>
      have hn := hpl n (by simp)
      have hgt : n > -1 - 1 := by omega
      have e : w - n = lf w [n] := by simp [lf]; omega
      simp only [List.flatten_cons, List.cons_append, gr, if_pos hgt, List.length_cons]
      have hline := gr_line w l (fun m hm => hpl m (by simp [hm])) r.flatten [n] (i + 1) (by simpa using h2)
      rw [e, hline]
      have hle : lf w ([n] ++ l) ≤ w := by have := lf_le2 w ([n] ++ l) (by simpa using hpl) (by simp); omega
      have hm := (gr_mono w r.flatten hpr (-1) (lf w ([n] ++ l)) 0 (i + 1 + l.length) (by simp at h2 ⊢; omega) hle).1
      have := ih' 0
      omega

/-- Words from j on, ahead of k. -/
def seg (ws : List Int) (j k : Nat) : List Int := (ws.drop j).take (k - j)
theorem seg_self (ws : List Int) (j : Nat) : seg ws j j = [] := by simp [seg]
theorem seg_succ (ws : List Int) (j k : Nat) (h : j ≤ k) (hk : k < ws.length) : seg ws j (k + 1) = seg ws j k ++ [ws[k]] := by
  unfold seg
  rw [show k + 1 - j = (k - j) + 1 by omega, List.take_succ_eq_append_getElem (by rw [List.length_drop]; omega)]
  congr 1; simp; congr 1; omega
theorem seg_len (ws : List Int) (j k : Nat) (h : j ≤ k) (hk : k ≤ ws.length) : (seg ws j k).length = k - j := by simp [seg]; omega
theorem seg_mem (ws : List Int) (j k : Nat) : ∀ x ∈ seg ws j k, x ∈ ws := fun x hx => List.mem_of_mem_drop (List.mem_of_mem_take hx)
theorem lf_seg_mono (w : Int) (ws : List Int) (hl : ∀ n ∈ ws, 1 ≤ n) (j k k2 : Nat) (h : j ≤ k) (h2 : k ≤ k2) (hk : k2 ≤ ws.length) : lf w (seg ws j k2) ≤ lf w (seg ws j k) := by
  induction k2 with
  | zero => obtain rfl : k = 0 := by omega
            exact Int.le_refl _
  | succ m ih =>
    rcases Nat.lt_or_ge m k with hm | hm
    · obtain rfl : k = m + 1 := by omega
      exact Int.le_refl _
    · rw [seg_succ ws j m (by omega) (by omega), lf_snoc]
      have := ih hm (by omega)
      have := hl ws[m] (List.getElem_mem _)
      omega
def stp (w : Int) (ws : List Int) (C : Nat → Int) (j k : Nat) : Int := if k < ws.length then lf w (seg ws j k) * lf w (seg ws j k) + C k else 0
/-- What stands in the tables at word j. -/
structure Dp (w : Int) (ws : List Int) (C N : Nat → Int) (j : Nat) : Prop where
  nx : ∃ k : Nat, N j = (k : Int) ∧ j < k ∧ k ≤ ws.length ∧ 0 ≤ lf w (seg ws j k) ∧ C j = stp w ws C j k
  least : ∀ k, j < k → k ≤ ws.length → 0 ≤ lf w (seg ws j k) → C j ≤ stp w ws C j k
  lo : 0 ≤ C j
  hi : C j ≤ 4000 * ((ws.length : Int) - j)
theorem take_seg (ws : List Int) (j k : Nat) (h : j ≤ k) (hk : k ≤ ws.length) : ws.drop j = seg ws j k ++ ws.drop k := by
  unfold seg
  have := (List.take_append_drop (k - j) (ws.drop j)).symm
  rw [List.drop_drop, show j + (k - j) = k by omega] at this
  exact this
/-- No lines of what is left cost less. -/
theorem dp_least (w : Int) (ws : List Int) (C N : Nat → Int) (hp : ∀ n ∈ ws, 1 ≤ n) (hd : ∀ j, j < ws.length → Dp w ws C N j) (ls : List (List Int)) : ∀ j, j < ws.length → ls.flatten = ws.drop j → Fit w ls → C j ≤ pcost w ls := by
  induction ls with
  | nil => intro j hj h; simp at h; omega
  | cons l r ih =>
    intro j hj h hf
    obtain ⟨h1, h2⟩ := hf l (by simp)
    have hlp : 0 < l.length := by cases l with
      | nil => exact absurd rfl h1
      | cons _ _ => simp
    have hlen : l.length ≤ ws.length - j := by have := congrArg List.length h; simp at this; omega
    have hseg : seg ws j (j + l.length) = l := by
      unfold seg
      rw [← h, Nat.add_sub_cancel_left, List.flatten_cons, List.take_left]
    have hrest : r.flatten = ws.drop (j + l.length) := by
      rw [← List.drop_drop, ← h, List.flatten_cons, List.drop_left]
    have hle := (hd j hj).least (j + l.length) (by omega) (by omega) (by rw [hseg]; exact h2)
    unfold stp at hle
    rw [hseg] at hle
    cases r with
    | nil =>
      have : ¬ j + l.length < ws.length := by intro hlt; have := congrArg List.length hrest; simp at this; omega
      rw [if_neg this] at hle
      simpa [pcost] using hle
    | cons m r =>
      have hlt : j + l.length < ws.length := by
        have hm := (hf m (by simp)).1
        have := congrArg List.length hrest
        cases m with
        | nil => exact absurd rfl hm
        | cons _ _ => simp at this; omega
      rw [if_pos hlt] at hle
      have := ih (j + l.length) hlt hrest (fun x hx => hf x (by simp [hx]))
      simp only [pcost]; omega
end Go.Proofs.Ytifjahfolmhhpaa
