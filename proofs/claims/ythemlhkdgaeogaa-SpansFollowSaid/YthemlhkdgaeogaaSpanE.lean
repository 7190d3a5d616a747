/-
  Sets of places and cuts, plain; the walk of spans.full.
-/
import Derived.Test.YthemlhkdgaeogaaSpanK
namespace Go.Proofs.Ythemlhkdgaeogaa
open Go.RowKit Go.Shelf
set_option linter.unusedVariables false
set_option linter.unusedSimpArgs false

theorem mem_lt {l : List Sp} {n : Nat} (h : ∀ x ∈ l, x.hi ≤ n) : ∀ j, inS l j = true → j < n := by
  intro j hj
  unfold inS at hj
  rw [List.any_eq_true] at hj
  obtain ⟨x, hx, h2⟩ := hj
  have := h x hx
  simp at h2
  omega
theorem hi_le {l : List Sp} {b n : Nat} (hN : Nrm b l) (h : ∀ j, inS l j = true → j < n) : ∀ x ∈ l, x.hi ≤ n := by
  intro x hx
  have h1 := (nrm_hi l b hN x hx).2.1
  have h2 : inS l (x.hi - 1) = true := by
    unfold inS
    rw [List.any_eq_true]
    exact ⟨x, hx, by simp; omega⟩
  have := h _ h2
  omega
/-- A set of places below n. -/
structure Set_ (n : Nat) (l : List Sp) : Prop where
  nrm : Nrm 0 l
  hi : ∀ x ∈ l, x.hi ≤ n
theorem Set_.small {n : Nat} {l : List Sp} (h : Set_ n l) (hn : n ≤ 600) : Small l := fun y hy => by
  have h1 := h.hi y hy
  have h2 := (nrm_hi _ _ h.nrm y hy).2.1
  omega
def IsCut (l : List Sp) (s : Sp) (o : List Sp) : Prop := Nrm 0 o ∧ (∀ i, inS o i = (inS l i && !(decide (s.lo ≤ i) && decide (i < s.hi)))) ∧ o.length ≤ l.length + 1
theorem wores_cut (l : List Sp) (s : Sp) (hs : s.lo ≤ s.hi) (hN : Nrm 0 l) : IsCut l s (WoRes l s) := by
  unfold WoRes
  by_cases h : s.lo = s.hi
  · rw [if_pos h]
    refine ⟨hN, fun i => ?_, by omega⟩
    have : (decide (s.lo ≤ i) && decide (i < s.hi)) = false := by
      by_cases a : s.lo ≤ i
      · have : ¬ i < s.hi := by omega
        simp [this]
      · simp [a]
    rw [this]; simp
  · rw [if_neg h]
    obtain ⟨h1, h2⟩ := without_ok s (by omega) l 0 hN
    exact ⟨h1, h2, without_len s (by omega) l 0 hN⟩
theorem IsCut.set_ {n : Nat} {l o : List Sp} {s : Sp} (h : IsCut l s o) (hl : Set_ n l) : Set_ n o :=
  ⟨h.1, hi_le h.1 (fun j hj => by rw [h.2.1] at hj; simp only [Bool.and_eq_true] at hj; exact mem_lt hl.hi j hj.1)⟩
theorem IsWith.set_ {n : Nat} {l o : List Sp} {s : Sp} (h : IsWith l s o) (hl : Set_ n l) (hs : s.hi ≤ n) : Set_ n o :=
  ⟨h.1, hi_le h.1 (fun j hj => by
    rw [h.2.1] at hj
    simp only [Bool.or_eq_true, Bool.and_eq_true, decide_eq_true_eq] at hj
    rcases hj with hj | hj
    · exact mem_lt hl.hi j hj
    · omega)⟩
theorem full_any (A : Option Addr) (n c : Nat) (w : World) (hn : n ≤ 40) :
    Calls Try.prog 36 #[.slice A n c] w fun e w' => e = .returned (.tuple #[.slice A n c, .int .i64 0]) ∧ w' = w := by
  have g1 : ¬ (40 : Int) < (n : Int) := by omega
  go_enter Try.func36, Try.ntmps36
  go_wp2_with fail
  go_ret2
  exact ⟨rfl, rfl⟩
end Go.Proofs.Ythemlhkdgaeogaa
