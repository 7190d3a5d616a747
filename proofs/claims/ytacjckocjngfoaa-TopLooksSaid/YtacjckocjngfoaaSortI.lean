/-
  slices.SortFunc at ints: the shelf's contract laid here; a list of the numbers below n sorted.
-/
import Derived.Test.YtacjckocjngfoaaSort1
import Derived.Test.YtacjckocjngfoaaBase
namespace Go.Proofs.Ytacjckocjngfoaa
open Go.RowKit Go.Shelf Go.Sort
set_option linter.unusedVariables false
set_option linter.unusedSimpArgs false

def sortIntsL_ren : Go.Shelf.Ren := ⟨fun | 6 => 35 | 14 => 50 | 15 => 29 | 20 => 58 | 21 => 59 | 22 => 60 | 23 => 61 | 24 => 62 | 25 => 63 | 26 => 64 | 27 => 65 | 28 => 48 | 29 => 49 | 46 => 76 | 47 => 54 | 48 => 55 | 49 => 77 | 50 => 78 | 57 => 82 | n => n, fun | 0 => 0 | 3 => 3 | 4 => 4 | 5 => 5 | 9 => 9 | 22 => 22 | 24 => 3 | 25 => 38 | 39 => 63 | 45 => 69 | 46 => 70 | 50 => 74 | 53 => 77 | 55 => 79 | 66 => 83 | 70 => 87 | 76 => 100 | 77 => 101 | n => n, fun n => n⟩
theorem sortIntsL : SlLaysF.n6 Try.prog sortIntsL_ren := {
  mixed := by kernel_rfl
  f6 := ⟨Try.f35.name, by decide, Try.func35.trans (congrArg some (by kernel_rfl))⟩
  f14 := ⟨Try.f50.name, by decide, Try.func50.trans (congrArg some (by kernel_rfl))⟩
  f15 := Try.func29.trans (congrArg some (by kernel_rfl))
  f20 := ⟨Try.f58.name, by decide, Try.func58.trans (congrArg some (by kernel_rfl))⟩
  f21 := ⟨Try.f59.name, by decide, Try.func59.trans (congrArg some (by kernel_rfl))⟩
  f22 := ⟨Try.f60.name, by decide, Try.func60.trans (congrArg some (by kernel_rfl))⟩
  f23 := ⟨Try.f61.name, by decide, Try.func61.trans (congrArg some (by kernel_rfl))⟩
  f24 := ⟨Try.f62.name, by decide, Try.func62.trans (congrArg some (by kernel_rfl))⟩
  f25 := ⟨Try.f63.name, by decide, Try.func63.trans (congrArg some (by kernel_rfl))⟩
  f26 := ⟨Try.f64.name, by decide, Try.func64.trans (congrArg some (by kernel_rfl))⟩
  f27 := ⟨Try.f65.name, by decide, Try.func65.trans (congrArg some (by kernel_rfl))⟩
  f28 := Try.func48.trans (congrArg some (by kernel_rfl))
  f29 := Try.func49.trans (congrArg some (by kernel_rfl))
  f46 := ⟨Try.f76.name, by decide, Try.func76.trans (congrArg some (by kernel_rfl))⟩
  f47 := Try.func54.trans (congrArg some (by kernel_rfl))
  f48 := Try.func55.trans (congrArg some (by kernel_rfl))
  f49 := ⟨Try.f77.name, by decide, Try.func77.trans (congrArg some (by kernel_rfl))⟩
  f50 := ⟨Try.f78.name, by decide, Try.func78.trans (congrArg some (by kernel_rfl))⟩
  f57 := ⟨Try.f82.name, by decide, Try.func82.trans (congrArg some (by kernel_rfl))⟩
  t0 := Try.underlying0
  a0 := Try.isAgg0
  z0 := Try.sizeOf0
  v0 := Try.zeroValue0
  t3 := Try.underlying3
  a3 := Try.isAgg3
  z3 := Try.sizeOf3
  v3 := Try.zeroValue3
  t4 := Try.underlying4
  a4 := Try.isAgg4
  z4 := Try.sizeOf4
  v4 := Try.zeroValue4
  t5 := Try.underlying5
  a5 := Try.isAgg5
  z5 := Try.sizeOf5
  v5 := Try.zeroValue5
  t9 := Try.underlying9
  a9 := Try.isAgg9
  z9 := Try.sizeOf9
  v9 := Try.zeroValue9
  t22 := Try.underlying22
  a22 := Try.isAgg22
  z22 := Try.sizeOf22
  v22 := Try.zeroValue22
  a24 := Try.isAgg3
  z24 := Try.sizeOf3
  t25 := Try.underlying38
  a25 := Try.isAgg38
  z25 := Try.sizeOf38
  v25 := Try.zeroValue38
  t39 := Try.underlying63
  a39 := Try.isAgg63
  z39 := Try.sizeOf63
  v39 := Try.zeroValue63
  t45 := Try.underlying69
  a45 := Try.isAgg69
  z45 := Try.sizeOf69
  v45 := Try.zeroValue69
  t46 := Try.underlying70
  a46 := Try.isAgg70
  z46 := Try.sizeOf70
  v46 := Try.zeroValue70
  t50 := Try.underlying74
  a50 := Try.isAgg74
  z50 := Try.sizeOf74
  v50 := Try.zeroValue74
  t53 := Try.underlying77
  a53 := Try.isAgg77
  z53 := Try.sizeOf77
  v53 := Try.zeroValue77
  t55 := Try.underlying79
  a55 := Try.isAgg79
  z55 := Try.sizeOf79
  v55 := Try.zeroValue79
  t66 := Try.underlying83
  a66 := Try.isAgg83
  z66 := Try.sizeOf83
  v66 := Try.zeroValue83
  t70 := Try.underlying87
  a70 := Try.isAgg87
  z70 := Try.sizeOf87
  v70 := Try.zeroValue87
  t76 := Try.underlying100
  a76 := Try.isAgg100
  z76 := Try.sizeOf100
  v76 := Try.zeroValue100
  t77 := Try.underlying101
  a77 := Try.isAgg101
  z77 := Try.sizeOf101
  v77 := Try.zeroValue101 }

theorem extract_all {α : Type} (a : Array α) (m : Nat) (h : a.size = m) : a.extract 0 m = a := by subst h; exact Array.extract_size
def encF {n : Nat} (x : Fin n) : Value := .int .i64 (x.val : Int)
/-- Sorted by a strict weak order: a permutation, and no later one is ahead of an earlier one. -/
def SortF {n : Nat} (lt : Fin n → Fin n → Bool) (l : List (Fin n)) : Prop := List.Perm l (List.finRange n) ∧ l.Pairwise fun a b => lt b a = false
theorem sortFunc_list {n : Nat} [Inhabited (Fin n)] (l0 : List (Fin n)) (hl : l0.length = n) (cf : Fin n → Fin n → Int) (hO : SWO (ltOf cf)) (k : Nat) (cb : Array Value) (g c base : Nat) (w : World)
    (eg : ∀ args w, (callFunc k args).run Try.prog w = .ok (.enter k args) w)
    (h : w.ownsRow base 3 1 (.slice (some ⟨g, 0, none⟩) n c) n (l0.map encF)) (hn : n ≤ 100000)
    (hc : ∀ (x y : Fin n) (W : World), (∀ a v, a.block ≠ g → w.cell? a = some v → W.cell? a = some v) → Calls Try.prog k (#[encF x, encF y] ++ cb) W fun e w' => e = .returned (.int .i64 (cf x y)) ∧ ∃ q os', w' = grow (W.drewN q) os') :
    Calls Try.prog 35 #[.slice (some ⟨g, 0, none⟩) n c, .func (.func k) #[] cb] w fun e w' =>
      e = .returned (.tuple #[]) ∧ ∃ l : List (Fin n), List.Perm l l0 ∧ (l.Pairwise fun a b => ltOf cf b a = false) ∧ w'.ownsRow base 3 1 (.slice (some ⟨g, 0, none⟩) n c) n (l.map encF) ∧ Below base w w' ∧ w.grownBy w' (some g) := by
  have hsz : l0.toArray.size = n := by simpa using hl
  have ho : w.ownsRow base 3 1 (.slice (some ⟨g, 0, none⟩) l0.length c) l0.length (l0.map encF) := by rw [hl]; exact h
  have hlt : g < w.heap.size := by
    obtain ⟨_, _, _, cur, hg, _⟩ := own_block1 h
    exact (Array.getElem?_eq_some_iff.1 hg).1
  have hc' := Any.slices_SortFunc sortIntsL encF (fun _ => rfl) cf hO k cb g 0 c l0.toArray w eg
    (fun m os dk _ x y => hc x y _ (fun a v ha hv => sorted_cell ha hv)) (holds_of_own _ ho) hlt (by rw [hsz]; omega)
  rw [hsz] at hc'
  refine hc'.mono ?_
  rintro e w' ⟨rfl, d', m, os, hp, hs, rfl⟩
  have hd : d'.size = n := by rw [hp.1, hsz]
  have hd2 : d'.toList.length = n := by simpa using hd
  obtain ⟨h4, h5⟩ := own_of_sorted1 (m := m) (os := os) _ ho d' (by rw [hd, hl])
  refine ⟨rfl, d'.toList, ?_, ?_, ?_, h5, sorted_grown⟩
  · have e1 := extract_all d' n hd
    have e2 := extract_all l0.toArray n hsz
    have h6 := hp.2.2
    rw [e1, e2] at h6
    simpa using h6
  · rw [List.pairwise_iff_getElem]
    intro i j hi hj hij
    have hj' : j < d'.size := by simpa using hj
    have hi' : i < d'.size := by simpa using hi
    have h3 := hs i j (Nat.zero_le _) hij (by rw [← hd]; exact hj')
    rw [getElem!_pos d' j hj', getElem!_pos d' i hi'] at h3
    exact h3
  · rw [hd2] at h4
    exact h4
theorem sortFunc_any {n : Nat} [Inhabited (Fin n)] (cf : Fin n → Fin n → Int) (hO : SWO (ltOf cf)) (k : Nat) (cb : Array Value) (g c base : Nat) (w : World)
    (eg : ∀ args w, (callFunc k args).run Try.prog w = .ok (.enter k args) w)
    (h : w.ownsRow base 3 1 (.slice (some ⟨g, 0, none⟩) n c) n ((List.finRange n).map encF)) (hn : n ≤ 100000)
    (hc : ∀ (x y : Fin n) (W : World), (∀ a v, a.block ≠ g → w.cell? a = some v → W.cell? a = some v) → Calls Try.prog k (#[encF x, encF y] ++ cb) W fun e w' => e = .returned (.int .i64 (cf x y)) ∧ ∃ q os', w' = grow (W.drewN q) os') :
    Calls Try.prog 35 #[.slice (some ⟨g, 0, none⟩) n c, .func (.func k) #[] cb] w fun e w' =>
      e = .returned (.tuple #[]) ∧ ∃ l : List (Fin n), SortF (ltOf cf) l ∧ w'.ownsRow base 3 1 (.slice (some ⟨g, 0, none⟩) n c) n (l.map encF) ∧ Below base w w' := by
  have hl : (List.finRange n).length = n := List.length_finRange
  have hsz : (List.finRange n).toArray.size = n := by simp
  have ho : w.ownsRow base 3 1 (.slice (some ⟨g, 0, none⟩) (List.finRange n).length c) (List.finRange n).length ((List.finRange n).map encF) := by rw [hl]; exact h
  have hlt : g < w.heap.size := by
    obtain ⟨_, _, _, cur, hg, _⟩ := own_block1 h
    exact (Array.getElem?_eq_some_iff.1 hg).1
  have hc' := Any.slices_SortFunc sortIntsL encF (fun _ => rfl) cf hO k cb g 0 c (List.finRange n).toArray w eg
    (fun m os dk _ x y => hc x y _ (fun a v ha hv => sorted_cell ha hv)) (holds_of_own _ ho) hlt (by rw [hsz]; omega)
  rw [hsz] at hc'
  refine hc'.mono ?_
  rintro e w' ⟨rfl, d', m, os, hp, hs, rfl⟩
  have hd : d'.size = n := by rw [hp.1, hsz]
  have hd2 : d'.toList.length = n := by simpa using hd
  obtain ⟨h4, h5⟩ := own_of_sorted1 (m := m) (os := os) _ ho d' (by rw [hd, hl])
  refine ⟨rfl, d'.toList, ⟨?_, ?_⟩, ?_, h5⟩
  · have e1 := extract_all d' n hd
    have e2 := extract_all (List.finRange n).toArray n hsz
    have h6 := hp.2.2
    rw [e1, e2] at h6
    simpa using h6
  · rw [List.pairwise_iff_getElem]
    intro i j hi hj hij
    have hj' : j < d'.size := by simpa using hj
    have hi' : i < d'.size := by simpa using hi
    have h3 := hs i j (Nat.zero_le _) hij (by rw [← hd]; exact hj')
    rw [getElem!_pos d' j hj', getElem!_pos d' i hi'] at h3
    exact h3
  · rw [hd2] at h4
    exact h4
end Go.Proofs.Ytacjckocjngfoaa
