/-
  The order in which words are guessed, plain.
-/
import Derived.Test.YtpjpckhmjonehaaCurP
import Derived.Shelf.SlSortCmp.Insertion
namespace Go.Proofs.Ytpjpckhmjonehaa
open Go.Sort
set_option linter.unusedVariables false
set_option linter.unusedSimpArgs false

/-- Ahead: nearer; or as near, and its letters ahead; or the same, and its number ahead. -/
def gst {n : Nat} (F : Fin n → Nat) (W : Fin n → List UInt8) (a b : Fin n) : Prop := F a < F b ∨ (F a = F b ∧ (W a < W b ∨ (W a = W b ∧ a.val < b.val)))
def cmpW (x y : List UInt8) : Int := if x < y then -1 else if y < x then 1 else 0
def gcf {n : Nat} (F : Fin n → Nat) (W : Fin n → List UInt8) (a b : Fin n) : Int :=
  if cmpI (F a) (F b) = 0 then (if cmpW (W a) (W b) = 0 then cmpI a.val b.val else cmpW (W a) (W b)) else cmpI (F a) (F b)
theorem cmpI_zero (x y : Nat) : cmpI x y = 0 ↔ x = y := by
  unfold cmpI
  split
  · constructor
    · intro h; cases h
    · intro h; omega
  · split
    · constructor
      · intro h; cases h
      · intro h; omega
    · constructor
      · intro _; omega
      · intro _; rfl
theorem cmpI_neg (x y : Nat) : cmpI x y < 0 ↔ x < y := by
  unfold cmpI
  split
  · constructor
    · intro _; assumption
    · intro _; decide
  · split
    · constructor
      · intro h; exact absurd h (by decide)
      · intro h; omega
    · constructor
      · intro h; exact absurd h (by decide)
      · intro h; omega
theorem lt_irr (x : List UInt8) : ¬ x < x := List.lt_irrefl x
theorem lt_asy {x y : List UInt8} (h : x < y) : ¬ y < x := fun h2 => lt_irr x (List.lt_trans h h2)
theorem cmpW_zero (x y : List UInt8) : cmpW x y = 0 ↔ x = y := by
  unfold cmpW
  split
  · rename_i h
    constructor
    · intro h; cases h
    · intro e; subst e; exact absurd h (lt_irr x)
  · rename_i h
    split
    · rename_i h2
      constructor
      · intro h; cases h
      · intro e; subst e; exact absurd h2 (lt_irr x)
    · rename_i h2
      constructor
      · intro _; exact List.le_antisymm (List.not_lt.1 h2) (List.not_lt.1 h)
      · intro _; rfl
theorem cmpW_neg (x y : List UInt8) : cmpW x y < 0 ↔ x < y := by
  unfold cmpW
  split
  · rename_i h
    exact ⟨fun _ => h, fun _ => by decide⟩
  · rename_i h
    split
    · exact ⟨fun h2 => absurd h2 (by decide), fun h2 => absurd h2 h⟩
    · exact ⟨fun h2 => absurd h2 (by decide), fun h2 => absurd h2 h⟩
theorem gcf_lt {n : Nat} (F : Fin n → Nat) (W : Fin n → List UInt8) (a b : Fin n) : gcf F W a b < 0 ↔ gst F W a b := by
  unfold gcf gst
  by_cases h1 : F a = F b
  · rw [if_pos ((cmpI_zero _ _).2 h1)]
    by_cases h2 : W a = W b
    · rw [if_pos ((cmpW_zero _ _).2 h2), cmpI_neg]
      constructor
      · intro h; exact .inr ⟨h1, .inr ⟨h2, h⟩⟩
      · rintro (h | ⟨_, h | ⟨_, h⟩⟩)
        · omega
        · rw [h2] at h; exact absurd h (lt_irr _)
        · exact h
    · rw [if_neg (fun h => h2 ((cmpW_zero _ _).1 h)), cmpW_neg]
      constructor
      · intro h; exact .inr ⟨h1, .inl h⟩
      · rintro (h | ⟨_, h | ⟨h, _⟩⟩)
        · omega
        · exact h
        · exact absurd h h2
  · rw [if_neg (fun h => h1 ((cmpI_zero _ _).1 h)), cmpI_neg]
    constructor
    · intro h; exact .inl h
    · rintro (h | ⟨h, _⟩)
      · exact h
      · exact absurd h h1
theorem gst_swo {n : Nat} (F : Fin n → Nat) (W : Fin n → List UInt8) : SWO (Go.Proofs.ltOf (gcf F W)) := by
  have e : ∀ x y, Go.Proofs.ltOf (gcf F W) x y = true ↔ gst F W x y := fun x y => by unfold Go.Proofs.ltOf; rw [decide_eq_true_eq]; exact gcf_lt F W x y
  have e2 : ∀ x y, Go.Proofs.ltOf (gcf F W) x y = false ↔ ¬ gst F W x y := fun x y => by rw [← e]; simp
  have tri : ∀ x y : List UInt8, x < y ∨ x = y ∨ y < x := fun x y => by
    by_cases h1 : x < y
    · exact .inl h1
    · by_cases h2 : y < x
      · exact .inr (.inr h2)
      · exact .inr (.inl (List.le_antisymm (List.not_lt.1 h2) (List.not_lt.1 h1)))
  refine ⟨fun x => (e2 x x).2 ?_, fun x y z h1 h2 => ?_, fun x y z h1 h2 => ?_⟩
  · rintro (h | ⟨_, h | ⟨_, h⟩⟩)
    · omega
    · exact lt_irr _ h
    · omega
  · rw [e] at *
    rcases h1 with h1 | ⟨h1, h1'⟩
    · rcases h2 with h2 | ⟨h2, _⟩
      · exact .inl (by omega)
      · exact .inl (by omega)
    · rcases h2 with h2 | ⟨h2, h2'⟩
      · exact .inl (by omega)
      · refine .inr ⟨by omega, ?_⟩
        rcases h1' with h1' | ⟨h1', k1⟩
        · rcases h2' with h2' | ⟨h2', _⟩
          · exact .inl (List.lt_trans h1' h2')
          · exact .inl (h2' ▸ h1')
        · rcases h2' with h2' | ⟨h2', k2⟩
          · exact .inl (h1' ▸ h2')
          · exact .inr ⟨h1'.trans h2', by omega⟩
  · rw [e2] at *
    intro h3
    rcases Nat.lt_trichotomy (F x) (F y) with q | q | q
    · exact h1 (.inl q)
    · rcases Nat.lt_trichotomy (F y) (F z) with r | r | r
      · exact h2 (.inl r)
      · rcases h3 with h3 | ⟨_, h3⟩
        · omega
        · rcases tri (W x) (W y) with s | s | s
          · exact h1 (.inr ⟨q, .inl s⟩)
          · rcases tri (W y) (W z) with t | t | t
            · exact h2 (.inr ⟨r, .inl t⟩)
            · rcases h3 with h3 | ⟨_, h3⟩
              · rw [s, t] at h3; exact lt_irr _ h3
              · by_cases u : x.val < y.val
                · exact h1 (.inr ⟨q, .inr ⟨s, u⟩⟩)
                · exact h2 (.inr ⟨r, .inr ⟨t, by omega⟩⟩)
            · rcases h3 with h3 | ⟨h3, _⟩
              · rw [s] at h3; exact lt_asy h3 t
              · rw [← s] at t; rw [h3] at t; exact lt_irr _ t
          · rcases tri (W y) (W z) with t | t | t
            · exact h2 (.inr ⟨r, .inl t⟩)
            · rcases h3 with h3 | ⟨h3, _⟩
              · rw [← t] at h3; exact lt_asy h3 s
              · rw [h3, ← t] at s; exact lt_irr _ s
            · have := List.lt_trans t s
              rcases h3 with h3 | ⟨h3, _⟩
              · exact lt_asy h3 this
              · rw [h3] at this; exact lt_irr _ this
      · rcases h3 with h3 | ⟨h3, _⟩ <;> omega
    · rcases h3 with h3 | ⟨h3, _⟩
      · by_cases r : F y < F z
        · exact h2 (.inl r)
        · omega
      · by_cases r : F y < F z
        · exact h2 (.inl r)
        · omega
end Go.Proofs.Ytpjpckhmjonehaa
