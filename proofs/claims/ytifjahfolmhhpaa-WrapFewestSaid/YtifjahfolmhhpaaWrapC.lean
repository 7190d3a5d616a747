/-
  Small plain laws of greedy and best lines, and contracts of wrap.Cost and wrap.Greedy in the form that the laws use.
-/
import Derived.Test.YtifjahfolmhhpaaWrapB
namespace Go.Proofs.Ytifjahfolmhhpaa
open Go.RowKit
set_option linter.unusedVariables false

theorem cost_is (v v2 : Value) (ws : List Int) (ls : List (List Int)) (wd : Int) (w : World) (hfl : ls.flatten = ws) (h : Row .i64 w v ws) (h2 : Row .i64 w v2 ((sts 0 ls).map fun (x : Nat) => (x : Int))) (hb : ∀ x ∈ ws, 1 ≤ x ∧ x ≤ wd) (hf : Fit wd ls) (hl : ws.length ≤ 80) (hw : 1 ≤ wd) (hw2 : wd ≤ 60) :
    Calls Try.prog 35 #[v, .int .i64 wd, v2] w (CostPost (pcost wd ls) w) := by
  subst hfl; exact cost_any v v2 ls wd w h h2 hb hf hl hw hw2
theorem fit_mono (w w' : Int) (ls : List (List Int)) (h : w ≤ w') (hf : Fit w ls) : Fit w' ls := fun l hl => ⟨(hf l hl).1, by have := (hf l hl).2; simp only [lf] at *; omega⟩
theorem gls_len (w : Int) (ws : List Int) (h : ∀ n ∈ ws, 1 ≤ n ∧ n ≤ w) : (gls w ws).length = (gr w (-1) 0 ws).length := by rw [← gls_sts w ws h, sts_len]
theorem wider_fewer (w : Int) (ws : List Int) (h : ∀ n ∈ ws, 1 ≤ n ∧ n ≤ w) : (gr (w + 1) (-1) 0 ws).length ≤ (gr w (-1) 0 ws).length := by
  have h1 := gr_fewest (w + 1) (gls w ws) (by rw [gls_flat]; exact fun n hn => (h n hn).1) (fit_mono w _ _ (by omega) (gls_fit w ws h)) 0
  rw [gls_flat, gls_len w ws h] at h1; exact h1
theorem one_line (w : Int) (ws : List Int) (h : ∀ n ∈ ws, 1 ≤ n ∧ n ≤ w) (hw : 1 ≤ w) : 0 ≤ lf w ws ↔ (gr w (-1) 0 ws).length ≤ 1 := by
  constructor
  · intro h0
    by_cases hn : ws = []
    · subst hn; simp [gr]
    · have := gr_fewest w [ws] (by simpa using fun n hn => (h n hn).1) (fun l hl => by simp at hl; subst hl; exact ⟨hn, h0⟩) 0
      simpa using this
  · intro h1
    rw [← gls_len w ws h] at h1
    have hf := gls_fit w ws h
    have he := gls_flat w ws
    generalize gls w ws = L at *
    rcases L with _ | ⟨l, _ | ⟨m, r⟩⟩
    · simp at he; subst he; simp [lf]; omega
    · simp at he; subst he; exact (hf l (by simp)).2
    · simp at h1
theorem one_cost (w : Int) (ws : List Int) (ls : List (List Int)) (h0 : 0 ≤ lf w ws) (he : ls.flatten = ws) (hf : Fit w ls) (ho : ∀ ls', ls'.flatten = ws → Fit w ls' → pcost w ls ≤ pcost w ls') : pcost w ls = 0 := by
  have h2 := pcost_nonneg w ls
  by_cases hn : ws = []
  · have := ho [] (by simp [hn]) (fun l hl => by simp at hl)
    simp [pcost] at this; omega
  · have := ho [ws] (by simp) (fun l hl => by simp at hl; subst hl; exact ⟨hn, h0⟩)
    simp [pcost] at this; omega
theorem gr_row {w : World} {base : Nat} {e : TypeId} {v : Value} {wd : Int} {ws : List Int} (hl : ws.length ≤ 1000) (h : w.ownsRow base e 1 v (gr wd (-1) 0 ws).length ((gr wd (-1) 0 ws).map fun (x : Nat) => Value.int .i64 (x : Int))) : Row .i64 w v ((gr wd (-1) 0 ws).map fun (x : Nat) => (x : Int)) :=
  row_of_own (by rw [List.length_map, List.map_map]; exact h) (fun x hx => by
    obtain ⟨y, hy, rfl⟩ := List.mem_map.1 hx
    have := gr_bd wd ws (-1) 0 y hy
    exact wfi _ (by omega))
theorem lit_one (h : World) : Row .i64 (h.alloc (.cells #[.int .i64 1] 3)) (.slice (some ⟨h.heap.size, 0, none⟩) 1 1) [1] := Row.lit h 3 .i64 [1] (by decide) (by intro x hx; simp at hx; subst hx; exact wfi 1 (by omega))
theorem greedy_one (W h : World) (hh : W = h.alloc (.cells #[.int .i64 1] 3)) : Calls Try.prog 33 #[.slice (some ⟨h.heap.size, 0, none⟩) 1 1, .int .i64 1] W (GreedyPost 1 [1] W) := by
  refine greedy_any (.slice (some ⟨h.heap.size, 0, none⟩) 1 1) [1] 1 W (by rw [hh]; exact lit_one h) (by intro x hx; simp at hx; omega) (by decide) (by decide) (by decide)

end Go.Proofs.Ytifjahfolmhhpaa
