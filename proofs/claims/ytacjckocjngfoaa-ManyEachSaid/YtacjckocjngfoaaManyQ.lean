/-
  Plain: counting hits by their finds.
-/
import Derived.Test.YtacjckocjngfoaaManyP
namespace Go.Proofs.Ytacjckocjngfoaa
set_option linter.unusedVariables false
set_option linter.unusedSimpArgs false

def picks (hs : List Ht) (i : Nat) : List Nat := (hs.filter fun h => h.f == i).map Ht.a
def kkOf (hs : List Ht) (i j : Nat) : Nat := (picks (hs.take j) i).length
def cntOf (hs : List Ht) (i : Nat) : Nat := (hs.filter fun h => decide (h.f < i)).length
theorem picks_app (a b : List Ht) (i : Nat) : picks (a ++ b) i = picks a i ++ picks b i := by unfold picks; rw [List.filter_append, List.map_append]
theorem kk_yes (hs : List Ht) (i j : Nat) (hj : j < hs.length) (he : hs[j].f = i) : kkOf hs i (j + 1) = kkOf hs i j + 1 ∧ kkOf hs i j < (picks hs i).length ∧ (picks hs i).getD (kkOf hs i j) 0 = hs[j].a := by
  have h1 : picks [hs[j]] i = [hs[j].a] := by unfold picks; simp [he]
  have h2 : kkOf hs i (j + 1) = kkOf hs i j + 1 := by
    unfold kkOf
    rw [List.take_succ_eq_append_getElem hj, picks_app, h1, List.length_append]; rfl
  have h3 : picks hs i = picks (hs.take j) i ++ ([hs[j].a] ++ picks (hs.drop (j + 1)) i) := by
    conv => lhs; rw [← List.take_append_drop (j + 1) hs, picks_app, List.take_succ_eq_append_getElem hj, picks_app, h1, List.append_assoc]
  refine ⟨h2, ?_, ?_⟩
  · rw [h3]; unfold kkOf; simp
  · rw [h3]; unfold kkOf
    rw [List.getD_eq_getElem?_getD, List.getElem?_append_right (Nat.le_refl _), Nat.sub_self]; rfl
theorem kk_no (hs : List Ht) (i j : Nat) (hj : j < hs.length) (he : ¬ hs[j].f = i) : kkOf hs i (j + 1) = kkOf hs i j := by
  unfold kkOf
  rw [List.take_succ_eq_append_getElem hj, picks_app, List.length_append]
  have : picks [hs[j]] i = [] := by unfold picks; simp [he]
  rw [this]; rfl
theorem kk_end (hs : List Ht) (i : Nat) : kkOf hs i hs.length = (picks hs i).length := by unfold kkOf; rw [List.take_of_length_le (Nat.le_refl _)]
theorem kk_zero (hs : List Ht) (i : Nat) : kkOf hs i 0 = 0 := by unfold kkOf picks; simp
theorem kk_le (hs : List Ht) (i j : Nat) : kkOf hs i j ≤ hs.length := by
  unfold kkOf picks
  rw [List.length_map]
  exact Nat.le_trans (List.length_filter_le _ _) (by rw [List.length_take]; omega)
theorem picks_le (hs : List Ht) (i : Nat) : (picks hs i).length ≤ hs.length := by unfold picks; rw [List.length_map]; exact List.length_filter_le _ _
theorem cnt_zero (hs : List Ht) : cntOf hs 0 = 0 := by unfold cntOf; simp
theorem cnt_succ (hs : List Ht) (i : Nat) : cntOf hs (i + 1) = cntOf hs i + (picks hs i).length := by
  unfold cntOf picks
  rw [List.length_map]
  induction hs with
  | nil => rfl
  | cons h t ih =>
    simp only [List.filter_cons]
    by_cases h1 : h.f < i
    · have h2 : h.f < i + 1 := by omega
      have h3 : ¬ h.f = i := by omega
      simp [h1, h2, h3]; omega
    · by_cases h3 : h.f = i
      · have h2 : h.f < i + 1 := by omega
        simp [h2, h3]; omega
      · have h2 : ¬ h.f < i + 1 := by omega
        simp [h1, h2, h3]; omega
theorem cnt_all (hs : List Ht) (n : Nat) (h : ∀ x ∈ hs, x.f < n) : cntOf hs n = hs.length := by
  unfold cntOf
  rw [List.filter_eq_self.2 fun x hx => by simpa using h x hx]
theorem cnt_le (hs : List Ht) (i : Nat) : cntOf hs i ≤ hs.length := List.length_filter_le _ _
end Go.Proofs.Ytacjckocjngfoaa
