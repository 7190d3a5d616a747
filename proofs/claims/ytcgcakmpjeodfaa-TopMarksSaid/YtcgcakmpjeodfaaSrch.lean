/-
  sort.SearchInts at a slice of integers that ascends: how many are less. By the shelf's contract. Nothing that was there is changed.
-/
import Derived.Test.YtcgcakmpjeodfaaUpdP
import Derived.Shelf.SlSorted.Search
namespace Go.Proofs.Ytcgcakmpjeodfaa
open Go.RowKit Go.Shelf Go.Lib Go.Sort
set_option linter.unusedVariables false

def siL_ren : Go.Shelf.Ren := ⟨fun | 14 => 79 | 16 => 46 | 22 => 108 | n => n, fun | 0 => 0 | 3 => 3 | 4 => 4 | 28 => 22 | 35 => 97 | 38 => 117 | n => n, fun n => n⟩
theorem siL : SlLaysO.n14 Try.prog siL_ren := {
  mixed := by kernel_rfl
  f14 := Try.func79.trans (congrArg some (by kernel_rfl))
  f16 := Try.func46.trans (congrArg some (by kernel_rfl))
  f22 := Try.func108.trans (congrArg some (by kernel_rfl))
  t0 := Try.underlying0
  a0 := Try.isAgg0
  z0 := Try.sizeOf0
  v0 := Try.zeroValue0
  t3 := Try.underlying3
  a3 := Try.isAgg3
  z3 := Try.sizeOf3
  v3 := Try.zeroValue3
  t4 := Try.underlying4
  a4 := Try.isAgg4
  z4 := Try.sizeOf4
  v4 := Try.zeroValue4
  t28 := Try.underlying22
  a28 := Try.isAgg22
  z28 := Try.sizeOf22
  v28 := Try.zeroValue22
  t35 := Try.underlying97
  a35 := Try.isAgg97
  z35 := Try.sizeOf97
  v35 := Try.zeroValue97
  t38 := Try.underlying117
  a38 := Try.isAgg117
  z38 := Try.sizeOf117
  v38 := Try.zeroValue117 }

theorem searchInts_any (v : Value) (L : List Int) (x : Int) (w : World) (h : Row .i64 w v L) (hs : ∀ i j, i ≤ j → j < L.length → L.getD i 0 ≤ L.getD j 0) (hl : L.length ≤ 100000) :
    Calls Try.prog 79 #[v, .int .i64 x] w fun e w' => e = .returned (.int .i64 (lessThan x L : Nat)) ∧ Below w.heap.size w w' := by
  obtain ⟨A, c, rfl, hlc, hc, hw, hr⟩ := h
  by_cases hn : L.length = 0
  · obtain rfl : L = [] := List.length_eq_zero_iff.1 hn
    exact (Any.sort_SearchInts_none siL A c x w).mono fun e w' ⟨he, hb⟩ => ⟨he, hb⟩
  · obtain ⟨b, off, rfl, hb, hcell⟩ := hr.plain (by omega) (by omega)
    have hg : ∀ i, i < L.length → L.toArray[i]! = L.getD i 0 := fun i hi => by
      rw [getElem!_pos _ _ (by simpa using hi)]; simp [List.getD, hi]
    have := Any.sort_SearchInts siL b off c L.toArray x w (fun i hi => by
      have hi' : i < L.length := by simpa using hi
      rw [hg i hi']
      exact hcell i _ (by simp [List.getD, hi'])) hb (by simp; omega) (fun i j hij hj h => by
      have hj' : j < L.length := by simpa using hj
      rw [hg i (by omega)] at h
      rw [hg j hj']
      have := hs i j hij hj'
      simp only [decide_eq_true_eq] at h ⊢
      omega)
    rw [List.size_toArray] at this
    exact this.mono fun e w' ⟨he, hb⟩ => ⟨by rw [he]; rfl, hb⟩
end Go.Proofs.Ytcgcakmpjeodfaa
