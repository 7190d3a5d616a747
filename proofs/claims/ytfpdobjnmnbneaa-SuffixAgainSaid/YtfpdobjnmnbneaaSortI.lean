/-
  slices.SortFunc at ints: the shelf's contract laid here; a list of the numbers below n sorted.
-/
import Derived.Test.YtfpdobjnmnbneaaSort1
import Derived.Test.YtfpdobjnmnbneaaBase
namespace Go.Proofs.Ytfpdobjnmnbneaa
open Go.RowKit Go.Shelf Go.Sort
set_option linter.unusedVariables false
set_option linter.unusedSimpArgs false

def sortIntsL_ren : Go.Shelf.Ren := ⟨fun | 6 => 57 | 14 => 77 | 15 => 75 | 20 => 83 | 21 => 95 | 22 => 96 | 23 => 97 | 24 => 98 | 25 => 99 | 26 => 100 | 27 => 101 | 28 => 93 | 29 => 94 | 46 => 119 | 47 => 115 | 48 => 116 | 49 => 120 | 50 => 121 | 57 => 127 | n => n, fun | 0 => 0 | 3 => 3 | 4 => 4 | 5 => 5 | 9 => 9 | 22 => 22 | 24 => 3 | 25 => 32 | 39 => 92 | 45 => 129 | 46 => 130 | 50 => 134 | 53 => 137 | 55 => 139 | 66 => 151 | 70 => 155 | 76 => 161 | 77 => 162 | n => n, fun n => n⟩
theorem sortIntsL : SlLaysF.n6 Try.prog sortIntsL_ren := {
  mixed := by kernel_rfl
  f6 := ⟨Try.f57.name, by decide, Try.func57.trans (congrArg some (by kernel_rfl))⟩
  f14 := ⟨Try.f77.name, by decide, Try.func77.trans (congrArg some (by kernel_rfl))⟩
  f15 := Try.func75.trans (congrArg some (by kernel_rfl))
  f20 := ⟨Try.f83.name, by decide, Try.func83.trans (congrArg some (by kernel_rfl))⟩
  f21 := ⟨Try.f95.name, by decide, Try.func95.trans (congrArg some (by kernel_rfl))⟩
  f22 := ⟨Try.f96.name, by decide, Try.func96.trans (congrArg some (by kernel_rfl))⟩
  f23 := ⟨Try.f97.name, by decide, Try.func97.trans (congrArg some (by kernel_rfl))⟩
  f24 := ⟨Try.f98.name, by decide, Try.func98.trans (congrArg some (by kernel_rfl))⟩
  f25 := ⟨Try.f99.name, by decide, Try.func99.trans (congrArg some (by kernel_rfl))⟩
  f26 := ⟨Try.f100.name, by decide, Try.func100.trans (congrArg some (by kernel_rfl))⟩
  f27 := ⟨Try.f101.name, by decide, Try.func101.trans (congrArg some (by kernel_rfl))⟩
  f28 := Try.func93.trans (congrArg some (by kernel_rfl))
  f29 := Try.func94.trans (congrArg some (by kernel_rfl))
  f46 := ⟨Try.f119.name, by decide, Try.func119.trans (congrArg some (by kernel_rfl))⟩
  f47 := Try.func115.trans (congrArg some (by kernel_rfl))
  f48 := Try.func116.trans (congrArg some (by kernel_rfl))
  f49 := ⟨Try.f120.name, by decide, Try.func120.trans (congrArg some (by kernel_rfl))⟩
  f50 := ⟨Try.f121.name, by decide, Try.func121.trans (congrArg some (by kernel_rfl))⟩
  f57 := ⟨Try.f127.name, by decide, Try.func127.trans (congrArg some (by kernel_rfl))⟩
  t0 := Try.underlying0
  a0 := Try.isAgg0
  z0 := Try.sizeOf0
  v0 := Try.zeroValue0
  t3 := Try.underlying3
  a3 := Try.isAgg3
  z3 := Try.sizeOf3
  v3 := Try.zeroValue3
  t4 := Try.underlying4
  a4 := Try.isAgg4
  z4 := Try.sizeOf4
  v4 := Try.zeroValue4
  t5 := Try.underlying5
  a5 := Try.isAgg5
  z5 := Try.sizeOf5
  v5 := Try.zeroValue5
  t9 := Try.underlying9
  a9 := Try.isAgg9
  z9 := Try.sizeOf9
  v9 := Try.zeroValue9
  t22 := Try.underlying22
  a22 := Try.isAgg22
  z22 := Try.sizeOf22
  v22 := Try.zeroValue22
  a24 := Try.isAgg3
  z24 := Try.sizeOf3
  t25 := Try.underlying32
  a25 := Try.isAgg32
  z25 := Try.sizeOf32
  v25 := Try.zeroValue32
  t39 := Try.underlying92
  a39 := Try.isAgg92
  z39 := Try.sizeOf92
  v39 := Try.zeroValue92
  t45 := Try.underlying129
  a45 := Try.isAgg129
  z45 := Try.sizeOf129
  v45 := Try.zeroValue129
  t46 := Try.underlying130
  a46 := Try.isAgg130
  z46 := Try.sizeOf130
  v46 := Try.zeroValue130
  t50 := Try.underlying134
  a50 := Try.isAgg134
  z50 := Try.sizeOf134
  v50 := Try.zeroValue134
  t53 := Try.underlying137
  a53 := Try.isAgg137
  z53 := Try.sizeOf137
  v53 := Try.zeroValue137
  t55 := Try.underlying139
  a55 := Try.isAgg139
  z55 := Try.sizeOf139
  v55 := Try.zeroValue139
  t66 := Try.underlying151
  a66 := Try.isAgg151
  z66 := Try.sizeOf151
  v66 := Try.zeroValue151
  t70 := Try.underlying155
  a70 := Try.isAgg155
  z70 := Try.sizeOf155
  v70 := Try.zeroValue155
  t76 := Try.underlying161
  a76 := Try.isAgg161
  z76 := Try.sizeOf161
  v76 := Try.zeroValue161
  t77 := Try.underlying162
  a77 := Try.isAgg162
  z77 := Try.sizeOf162
  v77 := Try.zeroValue162 }

theorem extract_all {α : Type} (a : Array α) (m : Nat) (h : a.size = m) : a.extract 0 m = a := by subst h; exact Array.extract_size
def encF {n : Nat} (x : Fin n) : Value := .int .i64 (x.val : Int)
/-- Sorted by a strict weak order: a permutation, and no later one is ahead of an earlier one. -/
def SortF {n : Nat} (lt : Fin n → Fin n → Bool) (l : List (Fin n)) : Prop := List.Perm l (List.finRange n) ∧ l.Pairwise fun a b => lt b a = false
theorem sortFunc_list {n : Nat} [Inhabited (Fin n)] (l0 : List (Fin n)) (hl : l0.length = n) (cf : Fin n → Fin n → Int) (hO : SWO (ltOf cf)) (k : Nat) (cb : Array Value) (g c base : Nat) (w : World)
    (eg : ∀ args w, (callFunc k args).run Try.prog w = .ok (.enter k args) w)
    (h : w.ownsRow base 3 1 (.slice (some ⟨g, 0, none⟩) n c) n (l0.map encF)) (hn : n ≤ 100000)
    (hc : ∀ (x y : Fin n) (W : World), (∀ a v, a.block ≠ g → w.cell? a = some v → W.cell? a = some v) → Calls Try.prog k (#[encF x, encF y] ++ cb) W fun e w' => e = .returned (.int .i64 (cf x y)) ∧ ∃ q os', w' = grow (W.drewN q) os') :
    Calls Try.prog 57 #[.slice (some ⟨g, 0, none⟩) n c, .func (.func k) #[] cb] w fun e w' =>
      e = .returned (.tuple #[]) ∧ ∃ l : List (Fin n), List.Perm l l0 ∧ (l.Pairwise fun a b => ltOf cf b a = false) ∧ w'.ownsRow base 3 1 (.slice (some ⟨g, 0, none⟩) n c) n (l.map encF) ∧ Below base w w' ∧ w.grownBy w' (some g) := by
  have hsz : l0.toArray.size = n := by simpa using hl
  have ho : w.ownsRow base 3 1 (.slice (some ⟨g, 0, none⟩) l0.length c) l0.length (l0.map encF) := by rw [hl]; exact h
  have hlt : g < w.heap.size := by
    obtain ⟨_, _, _, cur, hg, _⟩ := own_block1 h
    exact (Array.getElem?_eq_some_iff.1 hg).1
  have hc' := Any.slices_SortFunc sortIntsL encF (fun _ => rfl) cf hO k cb g 0 c l0.toArray w eg
    (fun m os dk _ x y => hc x y _ (fun a v ha hv => sorted_cell ha hv)) (holds_of_own _ ho) hlt (by rw [hsz]; omega)
  rw [hsz] at hc'
  refine hc'.mono ?_
  rintro e w' ⟨rfl, d', m, os, hp, hs, rfl⟩
  have hd : d'.size = n := by rw [hp.1, hsz]
  have hd2 : d'.toList.length = n := by simpa using hd
  obtain ⟨h4, h5⟩ := own_of_sorted1 (m := m) (os := os) _ ho d' (by rw [hd, hl])
  refine ⟨rfl, d'.toList, ?_, ?_, ?_, h5, sorted_grown⟩
  · have e1 := extract_all d' n hd
    have e2 := extract_all l0.toArray n hsz
    have h6 := hp.2.2
    rw [e1, e2] at h6
    simpa using h6
  · rw [List.pairwise_iff_getElem]
    intro i j hi hj hij
    have hj' : j < d'.size := by simpa using hj
    have hi' : i < d'.size := by simpa using hi
    have h3 := hs i j (Nat.zero_le _) hij (by rw [← hd]; exact hj')
    rw [getElem!_pos d' j hj', getElem!_pos d' i hi'] at h3
    exact h3
  · rw [hd2] at h4
    exact h4
theorem sortFunc_any {n : Nat} [Inhabited (Fin n)] (cf : Fin n → Fin n → Int) (hO : SWO (ltOf cf)) (k : Nat) (cb : Array Value) (g c base : Nat) (w : World)
    (eg : ∀ args w, (callFunc k args).run Try.prog w = .ok (.enter k args) w)
    (h : w.ownsRow base 3 1 (.slice (some ⟨g, 0, none⟩) n c) n ((List.finRange n).map encF)) (hn : n ≤ 100000)
    (hc : ∀ (x y : Fin n) (W : World), (∀ a v, a.block ≠ g → w.cell? a = some v → W.cell? a = some v) → Calls Try.prog k (#[encF x, encF y] ++ cb) W fun e w' => e = .returned (.int .i64 (cf x y)) ∧ ∃ q os', w' = grow (W.drewN q) os') :
    Calls Try.prog 57 #[.slice (some ⟨g, 0, none⟩) n c, .func (.func k) #[] cb] w fun e w' =>
      e = .returned (.tuple #[]) ∧ ∃ l : List (Fin n), SortF (ltOf cf) l ∧ w'.ownsRow base 3 1 (.slice (some ⟨g, 0, none⟩) n c) n (l.map encF) ∧ Below base w w' := by
  have hl : (List.finRange n).length = n := List.length_finRange
  have hsz : (List.finRange n).toArray.size = n := by simp
  have ho : w.ownsRow base 3 1 (.slice (some ⟨g, 0, none⟩) (List.finRange n).length c) (List.finRange n).length ((List.finRange n).map encF) := by rw [hl]; exact h
  have hlt : g < w.heap.size := by
    obtain ⟨_, _, _, cur, hg, _⟩ := own_block1 h
    exact (Array.getElem?_eq_some_iff.1 hg).1
  have hc' := Any.slices_SortFunc sortIntsL encF (fun _ => rfl) cf hO k cb g 0 c (List.finRange n).toArray w eg
    (fun m os dk _ x y => hc x y _ (fun a v ha hv => sorted_cell ha hv)) (holds_of_own _ ho) hlt (by rw [hsz]; omega)
  rw [hsz] at hc'
  refine hc'.mono ?_
  rintro e w' ⟨rfl, d', m, os, hp, hs, rfl⟩
  have hd : d'.size = n := by rw [hp.1, hsz]
  have hd2 : d'.toList.length = n := by simpa using hd
  obtain ⟨h4, h5⟩ := own_of_sorted1 (m := m) (os := os) _ ho d' (by rw [hd, hl])
  refine ⟨rfl, d'.toList, ⟨?_, ?_⟩, ?_, h5⟩
  · have e1 := extract_all d' n hd
    have e2 := extract_all (List.finRange n).toArray n hsz
    have h6 := hp.2.2
    rw [e1, e2] at h6
    simpa using h6
  · rw [List.pairwise_iff_getElem]
    intro i j hi hj hij
    have hj' : j < d'.size := by simpa using hj
    have hi' : i < d'.size := by simpa using hi
    have h3 := hs i j (Nat.zero_le _) hij (by rw [← hd]; exact hj')
    rw [getElem!_pos d' j hj', getElem!_pos d' i hi'] at h3
    exact h3
  · rw [hd2] at h4
    exact h4
end Go.Proofs.Ytfpdobjnmnbneaa
