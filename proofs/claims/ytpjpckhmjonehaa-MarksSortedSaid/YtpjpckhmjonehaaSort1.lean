/-
  A row of one's own, elements of one cell, behind a sort of the shelf's. No function of the program is spoken of here.
-/
import Derived.Test.YtpjpckhmjonehaaBase
import Derived.Shelf.SlSortCmp.NoneTotal
import Derived.Shelf.SlSortCmp.Insertion1
namespace Go.Proofs.Ytpjpckhmjonehaa
open Go.RowKit Go.Shelf Go.Sort
set_option linter.unusedVariables false
set_option linter.unusedSimpArgs false

section
variable {α : Type} [Inhabited α] {enc : α → Value}
theorem own_block1 {w : World} {base : Nat} {e : TypeId} {size : Nat} {g n c : Nat} {xs : List Value} (h : w.ownsRow base e size (.slice (some ⟨g, 0, none⟩) n c) n xs) :
    base ≤ g ∧ n ≤ c ∧ c ≤ maxLen ∧ ∃ cur : Array Value, w.heap[g]? = some (.cells cur e (0, 0)) ∧ cur.size = c * size ∧ cur.toList.take (n * size) = xs := by
  rcases h.2 with ⟨h1, _⟩ | ⟨g', cap, cur, h1, h2, h3, h4, h5, h6, h7⟩
  · cases h1
  · injection h1 with e1 _ e3
    injection e1 with e1
    injection e1 with e1
    subst e1; subst e3
    exact ⟨h2, h4, h5, cur, h3, h6, h7⟩
theorem holds_of_own {w : World} {base : Nat} {e : TypeId} {g c : Nat} (xs : List α) (h : w.ownsRow base e 1 (.slice (some ⟨g, 0, none⟩) xs.length c) xs.length (xs.map enc)) : Holds enc w g 0 xs.toArray := by
  obtain ⟨_, hnc, _, cur, hg, hs, ht⟩ := own_block1 h
  intro j hj
  have hj' : j < xs.length := by simpa using hj
  have hjs : j < cur.size := by rw [hs]; omega
  have e1 : (xs.map enc)[j]? = some (enc xs[j]) := by rw [List.getElem?_map, List.getElem?_eq_getElem hj']; rfl
  rw [← ht, List.getElem?_take, if_pos (by omega)] at e1
  rw [Nat.zero_add]
  constructor
  · simp only [World.cell?, hg]
    rw [getElem!_pos xs.toArray j hj]
    simpa using e1
  · simp only [World.frozen?, hg]
    simp
theorem own_of_sorted1 {w : World} {base : Nat} {e : TypeId} {g c m : Nat} {os : Array Obj} (xs : List α) (h : w.ownsRow base e 1 (.slice (some ⟨g, 0, none⟩) xs.length c) xs.length (xs.map enc)) (d : Array α) (hd : d.size = xs.length) :
    (sortWorld enc w g 0 m d os).ownsRow base e 1 (.slice (some ⟨g, 0, none⟩) d.toList.length c) d.toList.length (d.toList.map enc) ∧ Below base w (sortWorld enc w g 0 m d os) := by
  obtain ⟨hbg, hnc, hcm, cur, hg, hs, ht⟩ := own_block1 h
  have hlt : g < w.heap.size := (Array.getElem?_eq_some_iff.1 hg).1
  have hw : (sortWorld enc w g 0 m d os).heap[g]? = some (.cells (putCells enc 0 d cur) e (0, 0)) := by
    unfold sortWorld
    rw [heap_grow_old _ _ (by unfold putRow mapBlock; simp only [Array.size_modify]; exact hlt)]
    unfold putRow mapBlock
    rw [Array.getElem?_modify, if_pos rfl]
    show Option.map _ (w.heap[g]?) = _
    rw [hg]; rfl
  constructor
  · refine ⟨by rw [List.length_map, Nat.mul_one], .inr ⟨g, c, _, rfl, hbg, hw, by rw [Array.length_toList, hd]; exact hnc, hcm, by unfold putCells; rw [Array.size_mapIdx]; exact hs, ?_⟩⟩
    refine List.ext_getElem? fun t => ?_
    by_cases q : t < d.size
    · have q3 : t < cur.size := by rw [hs]; omega
      have q4 : t < d.toList.length * 1 := by rw [Array.length_toList]; omega
      rw [List.getElem?_take, if_pos q4, List.getElem?_map, Array.getElem?_toList (xs := d), Array.getElem?_eq_getElem q]
      unfold putCells
      rw [Array.getElem?_toList, Array.getElem?_mapIdx, Array.getElem?_eq_getElem q3]
      simp [q]
    · rw [List.getElem?_eq_none (by rw [List.length_take, Array.length_toList]; omega), List.getElem?_eq_none (by rw [List.length_map, Array.length_toList]; omega)]
  · refine ⟨rfl, rfl, rfl, ?_, fun j hj => ?_⟩
    · unfold sortWorld
      rw [size_grow]
      unfold putRow mapBlock
      simp only [Array.size_modify]
      exact Nat.le_add_right _ _
    · unfold sortWorld
      rw [heap_grow_old _ _ (by unfold putRow mapBlock; simp only [Array.size_modify]; show j < w.heap.size; omega)]
      unfold putRow mapBlock
      rw [Array.getElem?_modify, if_neg (by omega)]
      rfl
/-- A cell of another block is as it was. -/
theorem sorted_cell {w : World} {g m : Nat} {d : Array α} {os : Array Obj} {a : Addr} {v : Value} (ha : a.block ≠ g) (h : w.cell? a = some v) : (sortWorld enc w g 0 m d os).cell? a = some v := by
  have hb := block_lt_of_cell h
  unfold sortWorld
  rw [cell?_grow _ _ _ (by unfold putRow mapBlock; simp only [Array.size_modify]; exact hb)]
  have e : (putRow enc (Go.Sort.ahead w m) g 0 d).heap[a.block]? = w.heap[a.block]? := by
    unfold putRow mapBlock
    rw [Array.getElem?_modify, if_neg (fun e => ha e.symm)]
    rfl
  simp only [World.cell?] at h ⊢
  rw [e]; exact h
/-- The other blocks are as they were. -/
theorem sorted_grown {w : World} {g m : Nat} {d : Array α} {os : Array Obj} : w.grownBy (sortWorld enc w g 0 m d os) (some g) := by
  refine ⟨rfl, rfl, rfl, ?_, fun j hj hne => ?_⟩
  · unfold sortWorld
    rw [size_grow]
    unfold putRow mapBlock
    simp only [Array.size_modify]
    exact Nat.le_add_right _ _
  · unfold sortWorld
    rw [heap_grow_old _ _ (by unfold putRow mapBlock; simp only [Array.size_modify]; exact hj)]
    unfold putRow mapBlock
    rw [Array.getElem?_modify, if_neg (fun e => hne (by rw [e]))]
    rfl
end
end Go.Proofs.Ytpjpckhmjonehaa
