/-
  A row of one's own behind a sort of the shelf's. No function of the program is spoken of here.
-/
import Derived.Test.YtacjckocjngfoaaCRow
import Derived.Shelf.SlSortCmp.NoneTotal
import Derived.Shelf.SlSortCmp.InsertionK
import Derived.Shelf.SlSortCmp.Insertion1
namespace Go.Proofs.Ytacjckocjngfoaa
open Go.RowKit Go.Shelf Go.Sort
set_option linter.unusedVariables false
set_option linter.unusedSimpArgs false

section
variable {α : Type} [Inhabited α] {cl : α → List Value} {k : Nat}
theorem flatK_cells (h : ∀ x, (cl x).length = k) (xs : List α) (t : Nat) (ht : t < xs.length * k) : (cellsOf cl xs)[t]? = some (flatK cl k xs.toArray)[t]! := by
  have k0 : 0 < k := by rcases Nat.eq_zero_or_pos k with h | h; · subst h; simp at ht
                        · exact h
  rw [get_flatK cl k _ t (by simpa using ht)]
  have hq : t / k < xs.length := Nat.div_lt_of_lt_mul (by rwa [Nat.mul_comm])
  have hr : t % k < k := Nat.mod_lt _ k0
  have e := cellsOf_at h xs (t / k) hq (t % k) hr
  rw [show t / k * k + t % k = t by rw [Nat.mul_comm]; exact Nat.div_add_mod t k] at e
  rw [e]
  have e2 : xs.toArray[t / k]! = xs[t / k] := by simp [hq]
  rw [e2]
  have e3 : t % k < (cl xs[t / k]).length := by rw [h]; exact hr
  rw [List.getElem?_eq_getElem e3, getElem!_pos (cl xs[t / k]) (t % k) e3]
theorem own_block {w : World} {base : Nat} {e : TypeId} {size : Nat} {g n c : Nat} {xs : List Value} (h : w.ownsRow base e size (.slice (some ⟨g, 0, none⟩) n c) n xs) :
    base ≤ g ∧ n ≤ c ∧ c ≤ maxLen ∧ ∃ cur : Array Value, w.heap[g]? = some (.cells cur e (0, 0)) ∧ cur.size = c * size ∧ cur.toList.take (n * size) = xs := by
  rcases h.2 with ⟨h1, _⟩ | ⟨g', cap, cur, h1, h2, h3, h4, h5, h6, h7⟩
  · cases h1
  · injection h1 with e1 _ e3
    injection e1 with e1
    injection e1 with e1
    subst e1; subst e3
    exact ⟨h2, h4, h5, cur, h3, h6, h7⟩
theorem holdsK_of_own {w : World} {base : Nat} {e : TypeId} {g c : Nat} (hk : ∀ x, (cl x).length = k) (xs : List α) (h : w.ownsRow base e k (.slice (some ⟨g, 0, none⟩) xs.length c) xs.length (cellsOf cl xs)) : HoldsK cl k w g 0 xs.toArray := by
  obtain ⟨_, hnc, _, cur, hg, hs, ht⟩ := own_block h
  intro j hj
  have hj' : j < xs.length * k := by simpa using hj
  have hjs : j < cur.size := by rw [hs]; exact Nat.lt_of_lt_of_le hj' (Nat.mul_le_mul_right _ hnc)
  have e1 := flatK_cells hk xs j hj'
  rw [← ht, List.getElem?_take, if_pos hj'] at e1
  rw [Nat.zero_add]
  constructor
  · simp only [World.cell?, hg]
    simpa using e1
  · simp only [World.frozen?, hg]
    simp
theorem own_of_sorted {w : World} {base : Nat} {e : TypeId} {g c m : Nat} {os : Array Obj} (hk : ∀ x, (cl x).length = k) (xs : List α) (h : w.ownsRow base e k (.slice (some ⟨g, 0, none⟩) xs.length c) xs.length (cellsOf cl xs)) (d : Array α) (hd : d.size = xs.length) :
    (sortWorldK cl k w g 0 m d os).ownsRow base e k (.slice (some ⟨g, 0, none⟩) d.toList.length c) d.toList.length (cellsOf cl d.toList) ∧ Below base w (sortWorldK cl k w g 0 m d os) := by
  obtain ⟨hbg, hnc, hcm, cur, hg, hs, ht⟩ := own_block h
  have hlt : g < w.heap.size := (Array.getElem?_eq_some_iff.1 hg).1
  have hw : (sortWorldK cl k w g 0 m d os).heap[g]? = some (.cells (putCells id 0 (flatK cl k d) cur) e (0, 0)) := by
    unfold sortWorldK
    rw [heap_grow_old _ _ (by unfold putRowK putRow mapBlock; simp only [Array.size_modify]; exact hlt)]
    unfold putRowK putRow mapBlock
    rw [Array.getElem?_modify, if_pos rfl]
    show Option.map _ (w.heap[g]?) = _
    rw [hg]; rfl
  constructor
  · refine ⟨by rw [cellsOf_len hk], .inr ⟨g, c, _, rfl, hbg, hw, by rw [Array.length_toList, hd]; exact hnc, hcm, by unfold putCells; rw [Array.size_mapIdx]; exact hs, ?_⟩⟩
    have hlen : (cellsOf cl d.toList).length = d.toList.length * k := cellsOf_len hk _
    refine List.ext_getElem? fun t => ?_
    by_cases q : t < d.toList.length * k
    · have q2 : t < d.size * k := by simpa using q
      have q3 : t < cur.size := by rw [hs]; exact Nat.lt_of_lt_of_le (by rw [hd] at q2; exact q2) (Nat.mul_le_mul_right _ hnc)
      rw [List.getElem?_take, if_pos q, flatK_cells hk d.toList t q]
      unfold putCells
      rw [Array.getElem?_toList, Array.getElem?_mapIdx, Array.getElem?_eq_getElem q3]
      simp [q2]
    · rw [List.getElem?_eq_none (by rw [List.length_take]; omega), List.getElem?_eq_none (by rw [hlen]; omega)]
  · refine ⟨rfl, rfl, rfl, ?_, fun j hj => ?_⟩
    · unfold sortWorldK
      rw [size_grow]
      unfold putRowK putRow mapBlock
      simp only [Array.size_modify]
      exact Nat.le_add_right _ _
    · unfold sortWorldK
      rw [heap_grow_old _ _ (by unfold putRowK putRow mapBlock; simp only [Array.size_modify]; show j < w.heap.size; omega)]
      unfold putRowK putRow mapBlock
      rw [Array.getElem?_modify, if_neg (by omega)]
      rfl
end
end Go.Proofs.Ytacjckocjngfoaa
