/-
  The walk of the maker of inputs TextOf: a text of few letters. Nothing in memory is changed.
-/
import Derived.Test.YtpjpckhmjonehaaDoorPick
import Derived.Handy
namespace Go.Proofs.YtpjpckhmjonehaaDoor
open Go.RowKit
set_option linter.unusedVariables false

def letter (x : Int) : UInt8 := ([97, 98, 32, 10, 97, 98, 99, 100, 32, 98, 10, 97] : List UInt8).getD (x % 12).toNat 0
theorem letter_cut (x : Int) : (((ByteArray.mk #[97, 98, 32, 10, 97, 98, 99, 100, 32, 98, 10, 97]).extract (x % 12).toNat 12).extract 0 1).data.toList = [letter x] := by
  have h : (x % 12).toNat < 12 := by omega
  unfold letter
  generalize (x % 12).toNat = p at *
  rw [ByteArray.data_extract, ByteArray.data_extract]
  rcases p with _ | _ | _ | _ | _ | _ | _ | _ | _ | _ | _ | _ | p
  all_goals first | rfl | omega
def RetStr (l : List UInt8) (w : World) (e : Ending) (w' : World) : Prop := ∃ s : ByteArray, e = .returned (.string s) ∧ s.data.toList = l ∧ w = w'

set_option maxHeartbeats 400000 in
theorem textOf_any (v : Value) (xs : List Int) (n : Int) (w : World) (hr : Row .i64 w v xs) (hn : 0 ≤ n) (hn2 : n ≤ 1000) :
    Calls Tryd.prog 4 #[v, .int .i64 n] w (RetStr ((xs.take n.toNat).map letter) w) := by
  have hbd := hr.bd
  obtain ⟨A, c, rfl, hl, hc, hw, hrd⟩ := hr
  unfold maxLen at hc
  go_enter Tryd.func4, Tryd.ntmps4
  go_wp2
  go_loop [5, 6] (fun o i => ∃ (k : Nat) (s : ByteArray), k ≤ xs.length ∧ (k : Int) ≤ n ∧ o = .string s ∧ i = .int .i64 k ∧ s.data.toList = (xs.take k).map letter) (fun _ i => xs.length - (intOf i).toNat)
  case atStart => exact ⟨0, ⟨#[]⟩, Nat.zero_le _, hn, rfl, rfl, rfl⟩
  case round =>
    obtain ⟨k, s, hk, hkn, rfl, rfl, hse⟩ := hrel
    have hssz : s.size ≤ 1000 := by
      have : s.data.toList.length = k := by rw [hse]; simp [hk]
      have h2 : s.data.toList.length = s.size := by simp
      omega
    have H1 := Lib.hid hse
    clear hse
    by_cases hlt : k < xs.length
    · by_cases hlt2 : (k : Int) < n
      · obtain ⟨b0, o0, rfl, _, hcell⟩ := Row.at_ hrd hlt
        have hb := hbd k
        generalize hg : xs.getD k 0 = x at *
        have H2 := Lib.hid hg
        clear hg
        go_wp2_with (go_at_call 8; refine (picked_any x 12 _ hb (by omega) (by omega)).mono ?_; rintro e w' ⟨rfl, rfl⟩)
        go_round
        case rel =>
          refine ⟨k + 1, _, by omega, by omega, rfl, by go_num, ?_⟩
          rw [append_data, H1.out, letter_cut x, List.take_succ_eq_append_getElem hlt, List.map_append]
          have e : xs[k] = x := by rw [← H2.out]; simp [List.getD, hlt]
          rw [List.map_singleton, e]
        case measure => simp [intOf]; omega
      · have H3 := Lib.hid (show k = n.toNat by omega)
        go_wp2
        go_ret
        exact ⟨s, rfl, by rw [H1.out, H3.out, List.map_take], rfl⟩
    · have H3 := Lib.hid (show xs.take k = xs.take n.toNat by rw [List.take_of_length_le (by omega), List.take_of_length_le (by omega)])
      go_wp2
      go_ret
      exact ⟨s, rfl, by rw [H1.out, H3.out, List.map_take], rfl⟩
theorem textOf_is (v : Value) (xs : List Int) (n : Int) (w : World) (hr : Row .i64 w v xs) (hn : 0 ≤ n) (hn2 : n ≤ 1000) :
    Calls Tryd.prog 4 #[v, .int .i64 n] w fun e w' => e = .returned (.string ⟨((xs.take n.toNat).map letter).toArray⟩) ∧ w = w' :=
  (textOf_any v xs n w hr hn hn2).mono fun e w' ⟨s, he, hs, hw⟩ => ⟨by rw [he]; congr 2; exact bytes_ext (by rw [hs]), hw⟩
end Go.Proofs.YtpjpckhmjonehaaDoor
