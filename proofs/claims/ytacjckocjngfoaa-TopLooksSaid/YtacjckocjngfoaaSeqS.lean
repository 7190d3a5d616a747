/-
  slices.Sorted of slices.Values at ints.
-/
import Derived.Test.YtacjckocjngfoaaSeqI
import Derived.Test.YtacjckocjngfoaaSortO
import Derived.Test.YtacjckocjngfoaaSort1
namespace Go.Proofs.Ytacjckocjngfoaa
open Go.RowKit Go.Shelf Go.Sort
set_option linter.unusedVariables false
set_option linter.unusedSimpArgs false

theorem collect_any (Bt : Nat) (w0 w : World) (A : Option Addr) (c : Nat) (xs : List Int) (hr : Reads w0 w0.heap.size 1 A xs.length (xs.map (.int .i64))) (hw : Below w0.heap.size w0 w) (hBt : Bt < w.heap.size) (hc : w.cell? ⟨Bt, 0, none⟩ = some (.slice A xs.length c)) (hlen : xs.length ≤ 1000000) :
    Calls Try.prog 37 #[.func (.func 39) #[] #[.pointer (some ⟨Bt, 0, none⟩)]] w fun e w' => ∃ v, e = .returned v ∧ w'.ownsRow w.heap.size 3 1 v xs.length (xs.map encI) ∧ Below w.heap.size w w' := by
  have AP := Lib.hid (appendSeq_in Bt w0 w A c xs hr hw hBt hc hlen)
  clear hr hw hc
  go_enter Try.func37, Try.ntmps37
  go_wp2_with fail
  refine AP.out.mono ?_
  rintro e w2 ⟨v, rfl, h1, h2⟩
  go_wp2_with fail
  go_ret
  exact ⟨v, rfl, h1, h2⟩
/-- Sorted: ascending. -/
def asc (xs : List Int) : List Int := xs.mergeSort fun x y => decide (x ≤ y)
theorem asc_len (xs : List Int) : (asc xs).length = xs.length := by unfold asc; rw [List.length_mergeSort]
theorem sorted_seq (Bt : Nat) (w0 w : World) (A : Option Addr) (c : Nat) (xs : List Int) (hr : Reads w0 w0.heap.size 1 A xs.length (xs.map (.int .i64))) (hw : Below w0.heap.size w0 w) (hBt : Bt < w.heap.size) (hc : w.cell? ⟨Bt, 0, none⟩ = some (.slice A xs.length c)) (hlen : xs.length ≤ 1000000) :
    Calls Try.prog 25 #[.func (.func 39) #[] #[.pointer (some ⟨Bt, 0, none⟩)]] w fun e w' => ∃ v, e = .returned v ∧ w'.ownsRow w.heap.size 3 1 v xs.length ((asc xs).map encI) ∧ Below w.heap.size w w' := by
  have CO := Lib.hid (collect_any Bt w0 w A c xs hr hw hBt hc hlen)
  clear hr hw hc
  go_enter Try.func25, Try.ntmps25
  go_wp2_with fail
  refine CO.out.mono ?_
  rintro e w2 ⟨v, rfl, h1, h2⟩
  rcases h1.2 with ⟨rfl, hz⟩ | ⟨g, cap, cur, rfl, hb, hh, hnc, hcm, hs, ht⟩
  · have hx : xs = [] := List.eq_nil_of_length_eq_zero hz
    subst hx
    go_wp2_with fail
    refine (Any.slices_Sort_int_none sortOrdL none 0 _).mono ?_
    rintro e w3 ⟨rfl, rfl⟩
    go_wp2_with fail
    go_ret
    exact ⟨_, rfl, by simpa [asc] using h1, h2⟩
  · have hH : Holds (Value.int .i64) w2 g 0 xs.toArray := holds_of_own (enc := Value.int .i64) xs h1
    have hlt : g < w2.heap.size := (Array.getElem?_eq_some_iff.1 hh).1
    go_wp2_with fail
    refine (Any.slices_Sort_int sortOrdL g 0 cap xs _ hH hlt (by omega)).mono ?_
    rintro e w3 ⟨rfl, nn, os, hw3⟩
    have ha : (asc xs).toArray.size = xs.length := by rw [List.size_toArray, asc_len]
    obtain ⟨k1, k2⟩ := own_of_sorted1 (enc := Value.int .i64) (m := nn) (os := os) xs h1 (asc xs).toArray ha
    have hw3' : w3 = sortWorld (Value.int .i64) w2 g 0 nn (asc xs).toArray os := hw3
    rw [← hw3'] at k1 k2
    clear hw3 hw3'
    go_wp2_with fail
    go_ret
    rw [asc_len] at k1
    exact ⟨_, rfl, k1, h2.trans k2⟩
end Go.Proofs.Ytacjckocjngfoaa
