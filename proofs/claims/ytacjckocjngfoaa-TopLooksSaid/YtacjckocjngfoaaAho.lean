/-
  Aho and Corasick, plain: the longest end that is in a list of words closed under beginnings.
-/
import Derived.Test.YtacjckocjngfoaaBase
namespace Go.Proofs.Ytacjckocjngfoaa
set_option linter.unusedVariables false

/-- A list of words closed under beginnings. -/
structure Trie (l : List (List UInt8)) : Prop where
  nil : [] ∈ l
  up : ∀ u c, u ++ [c] ∈ l → u ∈ l
/-- The longest end that is a word. -/
def lsuf (l : List (List UInt8)) : List UInt8 → List UInt8
  | [] => []
  | a :: t => if a :: t ∈ l then a :: t else lsuf l t
def psuf (l : List (List UInt8)) (u : List UInt8) : List UInt8 := lsuf l u.tail
theorem lsuf_mem {l : List (List UInt8)} (h : [] ∈ l) : ∀ v, lsuf l v ∈ l
  | [] => h
  | a :: t => by
    unfold lsuf
    split
    · assumption
    · exact lsuf_mem h t
theorem lsuf_of_mem {l : List (List UInt8)} {v : List UInt8} (h : v ∈ l) : lsuf l v = v := by
  cases v with
  | nil => rfl
  | cons a t => unfold lsuf; rw [if_pos h]
theorem lsuf_suffix (l : List (List UInt8)) : ∀ v, lsuf l v <:+ v
  | [] => List.suffix_refl _
  | a :: t => by
    unfold lsuf
    split
    · exact List.suffix_refl _
    · exact (lsuf_suffix l t).trans (List.suffix_cons a t)
theorem lsuf_len (l : List (List UInt8)) (v : List UInt8) : (lsuf l v).length ≤ v.length := (lsuf_suffix l v).length_le
theorem psuf_len (l : List (List UInt8)) {u : List UInt8} (h : u ≠ []) : (psuf l u).length < u.length := by
  cases u with
  | nil => exact absurd rfl h
  | cons a t => exact Nat.lt_succ_of_le (lsuf_len l t)
/-- Every end that is a word is an end of the longest one. -/
theorem lsuf_max {l : List (List UInt8)} {x : List UInt8} (hx : x ∈ l) : ∀ v, x <:+ v → x <:+ lsuf l v
  | [], h => by simpa [lsuf] using h
  | a :: t, h => by
    unfold lsuf
    split
    · exact h
    · rename_i hn
      rcases List.suffix_cons_iff.1 h with rfl | h
      · exact absurd hx hn
      · exact lsuf_max hx t h
theorem lsuf_snoc {l : List (List UInt8)} (h : Trie l) (c : UInt8) : ∀ t, lsuf l (lsuf l t ++ [c]) = lsuf l (t ++ [c])
  | [] => rfl
  | a :: t => by
    by_cases hm : a :: t ∈ l
    · rw [lsuf_of_mem hm]
    · have e1 : lsuf l (a :: t) = lsuf l t := by rw [lsuf, if_neg hm]
      have hm2 : ¬ a :: (t ++ [c]) ∈ l := fun hh => hm (h.up (a :: t) c hh)
      have e2 : lsuf l (a :: t ++ [c]) = lsuf l (t ++ [c]) := by
        show lsuf l (a :: (t ++ [c])) = _
        rw [lsuf, if_neg hm2]
      rw [e1, e2]
      exact lsuf_snoc h c t
theorem lsuf_step {l : List (List UInt8)} (h : Trie l) (c : UInt8) {u : List UInt8} (hu : u ≠ []) (hn : ¬ u ++ [c] ∈ l) : lsuf l (psuf l u ++ [c]) = lsuf l (u ++ [c]) := by
  cases u with
  | nil => exact absurd rfl hu
  | cons a t =>
    show lsuf l (lsuf l t ++ [c]) = _
    rw [lsuf_snoc h c t]
    show _ = lsuf l (a :: (t ++ [c]))
    rw [lsuf, if_neg (show ¬ a :: (t ++ [c]) ∈ l from hn)]
theorem lsuf_none {l : List (List UInt8)} {c : UInt8} (hn : ¬ [c] ∈ l) : lsuf l [c] = [] := by
  rw [lsuf, if_neg hn]; rfl
/-- What goes back from a word of two signs or more. -/
theorem psuf_snoc {l : List (List UInt8)} (h : Trie l) (c : UInt8) {u : List UInt8} (hu : u ≠ []) : psuf l (u ++ [c]) = lsuf l (psuf l u ++ [c]) := by
  cases u with
  | nil => exact absurd rfl hu
  | cons a t => exact (lsuf_snoc h c t).symm
theorem psuf_one (l : List (List UInt8)) (c : UInt8) : psuf l [c] = [] := rfl
/-- The chain of ends. -/
def chain (l : List (List UInt8)) : Nat → List UInt8 → List (List UInt8)
  | 0, _ => []
  | n + 1, u => if u = [] then [] else u :: chain l n (psuf l u)
theorem chain_nil (l : List (List UInt8)) (n : Nat) : chain l n [] = [] := by cases n <;> simp [chain]
theorem chain_more (l : List (List UInt8)) : ∀ (n m : Nat) (u : List UInt8), u.length ≤ n → u.length ≤ m → chain l n u = chain l m u
  | 0, m, u, h, _ => by
    have : u = [] := List.length_eq_zero_iff.1 (by omega)
    rw [this, chain_nil, chain_nil]
  | n + 1, 0, u, _, h => by
    have : u = [] := List.length_eq_zero_iff.1 (by omega)
    rw [this, chain_nil, chain_nil]
  | n + 1, m + 1, u, h1, h2 => by
    unfold chain
    split
    · rfl
    · rename_i hu
      have := psuf_len l hu
      rw [chain_more l n m _ (by omega) (by omega)]
theorem chain_mem {l : List (List UInt8)} (h : [] ∈ l) : ∀ (n : Nat) (u x : List UInt8), u.length ≤ n → u ∈ l → (x ∈ chain l n u ↔ x ≠ [] ∧ x ∈ l ∧ x <:+ u)
  | 0, u, x, hn, hu => by
    have : u = [] := List.length_eq_zero_iff.1 (by omega)
    subst this
    simp only [chain, List.not_mem_nil, false_iff]
    rintro ⟨h1, _, h3⟩
    exact h1 (List.suffix_nil.1 h3)
  | n + 1, u, x, hn, hu => by
    unfold chain
    split
    · rename_i e
      subst e
      simp only [List.not_mem_nil, false_iff]
      rintro ⟨h1, _, h3⟩
      exact h1 (List.suffix_nil.1 h3)
    · rename_i e
      have hl := psuf_len l e
      rw [List.mem_cons, chain_mem h n (psuf l u) x (by omega) (lsuf_mem h _)]
      cases u with
      | nil => exact absurd rfl e
      | cons a t =>
        constructor
        · rintro (rfl | ⟨h1, h2, h3⟩)
          · exact ⟨e, hu, List.suffix_refl _⟩
          · exact ⟨h1, h2, (h3.trans (lsuf_suffix l t)).trans (List.suffix_cons a t)⟩
        · rintro ⟨h1, h2, h3⟩
          rcases List.suffix_cons_iff.1 h3 with rfl | h4
          · exact .inl rfl
          · exact .inr ⟨h1, h2, lsuf_max h2 t h4⟩
theorem chain_down (l : List (List UInt8)) : ∀ (n : Nat) (u : List UInt8), (chain l n u).Pairwise (fun x y => y.length < x.length) ∧ ∀ x ∈ chain l n u, x.length ≤ u.length
  | 0, u => by simp [chain]
  | n + 1, u => by
    unfold chain
    split
    · simp
    · rename_i e
      obtain ⟨h1, h2⟩ := chain_down l n (psuf l u)
      have hl := psuf_len l e
      refine ⟨List.pairwise_cons.2 ⟨fun x hx => by have := h2 x hx; omega, h1⟩, fun x hx => ?_⟩
      rcases List.mem_cons.1 hx with rfl | hx
      · exact Nat.le_refl _
      · have := h2 x hx; omega
end Go.Proofs.Ytacjckocjngfoaa
