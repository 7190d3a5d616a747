/-
  slices.SortFunc at ints: the shelf's contract laid here; a list of the numbers below n sorted.
-/
import Derived.Test.YtbnlapickajiaaaSort1
import Derived.Test.YtbnlapickajiaaaBase
namespace Go.Proofs.Ytbnlapickajiaaa
open Go.RowKit Go.Shelf Go.Sort
set_option linter.unusedVariables false
set_option linter.unusedSimpArgs false

def sortIntsL_ren : Go.Shelf.Ren := ⟨fun | 6 => 19 | 14 => 35 | 15 => 36 | 20 => 46 | 21 => 47 | 22 => 48 | 23 => 49 | 24 => 50 | 25 => 51 | 26 => 52 | 27 => 53 | 28 => 54 | 29 => 55 | 46 => 58 | 47 => 59 | 48 => 60 | 49 => 61 | 50 => 62 | 57 => 72 | n => n, fun | 0 => 0 | 3 => 3 | 4 => 4 | 5 => 5 | 9 => 9 | 22 => 23 | 24 => 3 | 25 => 26 | 39 => 59 | 45 => 64 | 46 => 65 | 50 => 69 | 53 => 72 | 55 => 74 | 66 => 77 | 70 => 81 | 76 => 89 | 77 => 90 | n => n, fun n => n⟩
theorem sortIntsL : SlLaysF.n6 Try.prog sortIntsL_ren := {
  mixed := by kernel_rfl
  f6 := ⟨Try.f19.name, by decide, Try.func19.trans (congrArg some (by kernel_rfl))⟩
  f14 := ⟨Try.f35.name, by decide, Try.func35.trans (congrArg some (by kernel_rfl))⟩
  f15 := Try.func36.trans (congrArg some (by kernel_rfl))
  f20 := ⟨Try.f46.name, by decide, Try.func46.trans (congrArg some (by kernel_rfl))⟩
  f21 := ⟨Try.f47.name, by decide, Try.func47.trans (congrArg some (by kernel_rfl))⟩
  f22 := ⟨Try.f48.name, by decide, Try.func48.trans (congrArg some (by kernel_rfl))⟩
  f23 := ⟨Try.f49.name, by decide, Try.func49.trans (congrArg some (by kernel_rfl))⟩
  f24 := ⟨Try.f50.name, by decide, Try.func50.trans (congrArg some (by kernel_rfl))⟩
  f25 := ⟨Try.f51.name, by decide, Try.func51.trans (congrArg some (by kernel_rfl))⟩
  f26 := ⟨Try.f52.name, by decide, Try.func52.trans (congrArg some (by kernel_rfl))⟩
  f27 := ⟨Try.f53.name, by decide, Try.func53.trans (congrArg some (by kernel_rfl))⟩
  f28 := Try.func54.trans (congrArg some (by kernel_rfl))
  f29 := Try.func55.trans (congrArg some (by kernel_rfl))
  f46 := ⟨Try.f58.name, by decide, Try.func58.trans (congrArg some (by kernel_rfl))⟩
  f47 := Try.func59.trans (congrArg some (by kernel_rfl))
  f48 := Try.func60.trans (congrArg some (by kernel_rfl))
  f49 := ⟨Try.f61.name, by decide, Try.func61.trans (congrArg some (by kernel_rfl))⟩
  f50 := ⟨Try.f62.name, by decide, Try.func62.trans (congrArg some (by kernel_rfl))⟩
  f57 := ⟨Try.f72.name, by decide, Try.func72.trans (congrArg some (by kernel_rfl))⟩
  t0 := Try.underlying0
  a0 := Try.isAgg0
  z0 := Try.sizeOf0
  v0 := Try.zeroValue0
  t3 := Try.underlying3
  a3 := Try.isAgg3
  z3 := Try.sizeOf3
  v3 := Try.zeroValue3
  t4 := Try.underlying4
  a4 := Try.isAgg4
  z4 := Try.sizeOf4
  v4 := Try.zeroValue4
  t5 := Try.underlying5
  a5 := Try.isAgg5
  z5 := Try.sizeOf5
  v5 := Try.zeroValue5
  t9 := Try.underlying9
  a9 := Try.isAgg9
  z9 := Try.sizeOf9
  v9 := Try.zeroValue9
  t22 := Try.underlying23
  a22 := Try.isAgg23
  z22 := Try.sizeOf23
  v22 := Try.zeroValue23
  a24 := Try.isAgg3
  z24 := Try.sizeOf3
  t25 := Try.underlying26
  a25 := Try.isAgg26
  z25 := Try.sizeOf26
  v25 := Try.zeroValue26
  t39 := Try.underlying59
  a39 := Try.isAgg59
  z39 := Try.sizeOf59
  v39 := Try.zeroValue59
  t45 := Try.underlying64
  a45 := Try.isAgg64
  z45 := Try.sizeOf64
  v45 := Try.zeroValue64
  t46 := Try.underlying65
  a46 := Try.isAgg65
  z46 := Try.sizeOf65
  v46 := Try.zeroValue65
  t50 := Try.underlying69
  a50 := Try.isAgg69
  z50 := Try.sizeOf69
  v50 := Try.zeroValue69
  t53 := Try.underlying72
  a53 := Try.isAgg72
  z53 := Try.sizeOf72
  v53 := Try.zeroValue72
  t55 := Try.underlying74
  a55 := Try.isAgg74
  z55 := Try.sizeOf74
  v55 := Try.zeroValue74
  t66 := Try.underlying77
  a66 := Try.isAgg77
  z66 := Try.sizeOf77
  v66 := Try.zeroValue77
  t70 := Try.underlying81
  a70 := Try.isAgg81
  z70 := Try.sizeOf81
  v70 := Try.zeroValue81
  t76 := Try.underlying89
  a76 := Try.isAgg89
  z76 := Try.sizeOf89
  v76 := Try.zeroValue89
  t77 := Try.underlying90
  a77 := Try.isAgg90
  z77 := Try.sizeOf90
  v77 := Try.zeroValue90 }

theorem extract_all {α : Type} (a : Array α) (m : Nat) (h : a.size = m) : a.extract 0 m = a := by subst h; exact Array.extract_size
def encF {n : Nat} (x : Fin n) : Value := .int .i64 (x.val : Int)
/-- Sorted by a strict weak order: a permutation, and no later one is ahead of an earlier one. -/
def SortF {n : Nat} (lt : Fin n → Fin n → Bool) (l : List (Fin n)) : Prop := List.Perm l (List.finRange n) ∧ l.Pairwise fun a b => lt b a = false
theorem sortFunc_any {n : Nat} [Inhabited (Fin n)] (cf : Fin n → Fin n → Int) (hO : SWO (ltOf cf)) (k : Nat) (cb : Array Value) (g c base : Nat) (w : World)
    (eg : ∀ args w, (callFunc k args).run Try.prog w = .ok (.enter k args) w)
    (h : w.ownsRow base 3 1 (.slice (some ⟨g, 0, none⟩) n c) n ((List.finRange n).map encF)) (hn : n ≤ 100000)
    (hc : ∀ (x y : Fin n) (W : World), (∀ a v, a.block ≠ g → w.cell? a = some v → W.cell? a = some v) → Calls Try.prog k (#[encF x, encF y] ++ cb) W fun e w' => e = .returned (.int .i64 (cf x y)) ∧ ∃ q os', w' = grow (W.drewN q) os') :
    Calls Try.prog 19 #[.slice (some ⟨g, 0, none⟩) n c, .func (.func k) #[] cb] w fun e w' =>
      e = .returned (.tuple #[]) ∧ ∃ l : List (Fin n), SortF (ltOf cf) l ∧ w'.ownsRow base 3 1 (.slice (some ⟨g, 0, none⟩) n c) n (l.map encF) ∧ Below base w w' := by
  have hl : (List.finRange n).length = n := List.length_finRange
  have hsz : (List.finRange n).toArray.size = n := by simp
  have ho : w.ownsRow base 3 1 (.slice (some ⟨g, 0, none⟩) (List.finRange n).length c) (List.finRange n).length ((List.finRange n).map encF) := by rw [hl]; exact h
  have hlt : g < w.heap.size := by
    obtain ⟨_, _, _, cur, hg, _⟩ := own_block1 h
    exact (Array.getElem?_eq_some_iff.1 hg).1
  have hc' := Any.slices_SortFunc sortIntsL encF (fun _ => rfl) cf hO k cb g 0 c (List.finRange n).toArray w eg
    (fun m os dk _ x y => hc x y _ (fun a v ha hv => sorted_cell ha hv)) (holds_of_own _ ho) hlt (by rw [hsz]; omega)
  rw [hsz] at hc'
  refine hc'.mono ?_
  rintro e w' ⟨rfl, d', m, os, hp, hs, rfl⟩
  have hd : d'.size = n := by rw [hp.1, hsz]
  have hd2 : d'.toList.length = n := by simpa using hd
  obtain ⟨h4, h5⟩ := own_of_sorted1 (m := m) (os := os) _ ho d' (by rw [hd, hl])
  refine ⟨rfl, d'.toList, ⟨?_, ?_⟩, ?_, h5⟩
  · have e1 := extract_all d' n hd
    have e2 := extract_all (List.finRange n).toArray n hsz
    have h6 := hp.2.2
    rw [e1, e2] at h6
    simpa using h6
  · rw [List.pairwise_iff_getElem]
    intro i j hi hj hij
    have hj' : j < d'.size := by simpa using hj
    have hi' : i < d'.size := by simpa using hi
    have h3 := hs i j (Nat.zero_le _) hij (by rw [← hd]; exact hj')
    rw [getElem!_pos d' j hj', getElem!_pos d' i hi'] at h3
    exact h3
  · rw [hd2] at h4
    exact h4
end Go.Proofs.Ytbnlapickajiaaa
