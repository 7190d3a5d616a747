/-
  The plain law of Makes: the sizes that it keeps are those of the texts.
-/
import Derived.Test.YtddbhoilhapljaaRopeShP
namespace Go.Proofs.Ytddbhoilhapljaa
open Go.RowKit
set_option linter.unusedVariables false

/-- The size that Makes keeps for an operation. -/
def mks (ls : List Nat) (o : Ro) : Nat := if o.k = 1 then o.text.size else if o.k = 2 then ls.getD o.a 0 + ls.getD o.b 0 else if o.k = 3 then o.at_ else if o.k = 4 then ls.getD o.a 0 - o.at_ else o.n * ls.getD o.a 0
structure MkI (os : List Ro) (ls : List Nat) : Prop where
  vld : vldT [] os
  is_ : ls = lens (runT [] os).1
  small : ∀ i, ls.getD i 0 ≤ 600
  len : ls.length ≤ os.length
theorem getD_append_le (ls : List Nat) (x : Nat) (h : ∀ i, ls.getD i 0 ≤ 600) (hx : x ≤ 600) : ∀ i, (ls ++ [x]).getD i 0 ≤ 600 := by
  intro i
  rw [List.getD_eq_getElem?_getD]
  rcases Nat.lt_trichotomy i ls.length with hi | hi | hi
  · rw [List.getElem?_append_left hi, ← List.getD_eq_getElem?_getD]; exact h i
  · subst hi; simpa using hx
  · rw [List.getElem?_eq_none (by simp; omega)]; simp
theorem mkI_nil : MkI [] [] := ⟨trivial, rfl, fun i => by simp, Nat.le_refl _⟩
theorem mkI_step {os : List Ro} {ls : List Nat} (h : MkI os ls) (ho : os.length < 40) (o : Ro) (hr : rok ls o) : MkI (os ++ [o]) (if mks ls o ≤ 600 then ls ++ [mks ls o] else ls) := by
  obtain ⟨h1, h2, h3, h4⟩ := h
  obtain ⟨r1, r2, r3, r4, r5, r6, r7, r8, r9, r10, r11, r12⟩ := hr
  have hrun : runT [] (os ++ [o]) = ((stepT (runT [] os).1 o).1, (runT [] os).2 ++ [(stepT (runT [] os).1 o).2]) := by
    rw [runT_append]; rfl
  have hst : (stepT (runT [] os).1 o).1 = if mks ls o ≤ 600 then (runT [] os).1 ++ [rres (runT [] os).1 o] else (runT [] os).1 := by
    unfold stepT
    rw [← h2]
    have he : rlen ls o ≤ 600 ↔ mks ls o ≤ 600 := by
      unfold rlen mks
      have h9 := h3 o.a
      have h34 := r5
      split
      · exact Iff.rfl
      · split
        · exact Iff.rfl
        · split
          · rename_i a b c
            subst_eqs
            rw [if_neg (by omega), if_neg (by omega), Nat.mul_comm]
          · split
            · omega
            · split
              · omega
              · omega
    by_cases hle : mks ls o ≤ 600
    · rw [if_pos hle, if_pos (he.2 hle)]
    · rw [if_neg hle, if_neg (fun h => hle (he.1 h))]
  have hlr : mks ls o ≤ 600 → (rres (runT [] os).1 o).length = mks ls o := by
    intro _
    generalize (runT [] os).1 = ts at *
    subst h2
    unfold rres mks
    rw [lens_getD, lens_getD] at *
    split
    · simp
    · split
      · simp
      · split
        · rename_i q
          have := r5 (.inl q)
          rw [List.length_take, Nat.min_eq_left this]
        · split
          · rw [List.length_drop]
          · simp
  refine ⟨?_, ?_, ?_, ?_⟩
  · rw [vldT_append]
    exact ⟨h1, by rw [← h2]; exact ⟨r1, r2, r3, r4, r5, r6, r7, r8, r9, r10, r11, r12⟩, trivial⟩
  · rw [hrun]
    show _ = lens (stepT (runT [] os).1 o).1
    rw [hst]
    split
    · rename_i hle
      simp only [lens, List.map_append, List.map_cons, List.map_nil]
      rw [hlr hle, h2]; rfl
    · exact h2
  · split
    · exact getD_append_le ls _ h3 (by assumption)
    · exact h3
  · rw [List.length_append]
    split
    · rw [List.length_append]; simp; omega
    · simp; omega
theorem runT_pre (l : List Ro) : ∀ ts, ∃ r, (runT ts l).1 = ts ++ r := by
  induction l with
  | nil => intro ts; exact ⟨[], by simp [runT]⟩
  | cons o l ih =>
    intro ts
    obtain ⟨r, hr⟩ := ih (stepT ts o).1
    have hs : ∃ q, (stepT ts o).1 = ts ++ q := by
      unfold stepT
      split
      · exact ⟨_, rfl⟩
      · exact ⟨[], by simp⟩
    obtain ⟨q, hq⟩ := hs
    exact ⟨q ++ r, by simp only [runT]; rw [hr, hq, List.append_assoc]⟩
end Go.Proofs.Ytddbhoilhapljaa
