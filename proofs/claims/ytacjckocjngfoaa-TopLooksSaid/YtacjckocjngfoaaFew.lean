/-
  The walk of Few: a text of the letters a and b. Nothing that was there is changed.
-/
import Derived.Test.YtacjckocjngfoaaPick
namespace Go.Proofs.Ytacjckocjngfoaa
open Go.RowKit
set_option linter.unusedVariables false

def ab (x : Int) : UInt8 := if x % 2 = 0 then 97 else 98
def RetStrB (l : List UInt8) (w : World) (e : Ending) (w' : World) : Prop := ∃ s : ByteArray, e = .returned (.string s) ∧ s.data.toList = l ∧ Below w.heap.size w w'

set_option maxHeartbeats 1000000 in
theorem few_any (v : Value) (xs : List Int) (n : Int) (w : World) (hr : Row .i64 w v xs) (hn : 0 ≤ n) (hn2 : n ≤ 1000) :
    Calls Try.prog 5 #[v, .int .i64 n] w (RetStrB ((xs.take n.toNat).map ab) w) := by
  have hbd := hr.bd
  obtain ⟨A, c, rfl, hl, hc, hw, hrd⟩ := hr
  unfold maxLen at hc
  go_enter Try.func5, Try.ntmps5
  go_wp2
  go_loopw [5, 6] (fun o i wr => ∃ (k : Nat) (s : ByteArray), k ≤ xs.length ∧ (k : Int) ≤ n ∧ o = .string s ∧ i = .int .i64 k ∧ s.data.toList = (xs.take k).map ab ∧ Below w.heap.size w wr) (fun _ i _ => xs.length - (intOf i).toNat)
  case atStart => exact ⟨0, ⟨#[]⟩, Nat.zero_le _, hn, rfl, rfl, rfl, Below.refl _ _⟩
  case round =>
    obtain ⟨k, s, hk, hkn, rfl, rfl, hse, hbel⟩ := hrel
    have hssz : s.size ≤ 1000 := by
      have : s.data.toList.length = k := by rw [hse]; simp [hk]
      have h2 : s.data.toList.length = s.size := by simp
      omega
    have H1 := Lib.hid hse
    clear hse
    by_cases hlt : k < xs.length
    · by_cases hlt2 : (k : Int) < n
      · obtain ⟨b0, o0, rfl, hadb, hcell⟩ := Row.at_ (hrd.below hbel) hlt
        have hadb2 : b0 < wr.heap.size := Nat.lt_of_lt_of_le hadb hbel.size
        have hb := hbd k
        generalize hg : xs.getD k 0 = x at *
        have H2 := Lib.hid hg
        clear hg
        rcases Int.emod_two_eq x with hx | hx
        · have H3 := Lib.hid hx
          go_wp2_with (go_at_call 11; refine (picked_any x 2 _ hb (by omega) (by omega)).mono ?_; rintro e w' ⟨rfl, rfl⟩)
          go_roundw
          case rel =>
            refine ⟨k + 1, _, by omega, by omega, rfl, by go_num, ?_, hbel.alloc hbel.size _⟩
            have e : xs[k] = x := by rw [← H2.out]; simp [List.getD, hlt]
            rw [append_data, H1.out, List.take_succ_eq_append_getElem hlt, List.map_append, e, List.map_singleton, ab, if_pos H3.out]
          case measure => simp [intOf]; omega
        · have H3 := Lib.hid hx
          go_wp2_with (go_at_call 11; refine (picked_any x 2 _ hb (by omega) (by omega)).mono ?_; rintro e w' ⟨rfl, rfl⟩)
          go_roundw
          case rel =>
            refine ⟨k + 1, _, by omega, by omega, rfl, by go_num, ?_, hbel.alloc hbel.size _⟩
            have e : xs[k] = x := by rw [← H2.out]; simp [List.getD, hlt]
            rw [append_data, H1.out, List.take_succ_eq_append_getElem hlt, List.map_append, e, List.map_singleton, ab, if_neg (by rw [H3.out]; decide)]
          case measure => simp [intOf]; omega
      · have H3 := Lib.hid (show k = n.toNat by omega)
        go_wp2
        go_ret
        exact ⟨s, rfl, by rw [H1.out, H3.out, List.map_take], hbel⟩
    · have H3 := Lib.hid (show xs.take k = xs.take n.toNat by rw [List.take_of_length_le (by omega), List.take_of_length_le (by omega)])
      go_wp2
      go_ret
      exact ⟨s, rfl, by rw [H1.out, H3.out, List.map_take], hbel⟩
end Go.Proofs.Ytacjckocjngfoaa
