/-
  The walk of pos.Find. Nothing that was there is changed.
-/
import Derived.Test.YtcgcakmpjeodfaaPos
import Derived.Test.YtcgcakmpjeodfaaEd
namespace Go.Proofs.Ytcgcakmpjeodfaa
open Go.RowKit
set_option linter.unusedVariables false

theorem index_cut (l : List UInt8) (c : UInt8) : (Lib.indexByte l c = -1 ∧ ∀ b ∈ l, b ≠ c) ∨ ∃ k : Nat, k < l.length ∧ Lib.indexByte l c = k ∧ l[k]? = some c ∧ ∀ b ∈ l.take k, b ≠ c := by
  induction l with
  | nil => exact .inl ⟨rfl, by simp⟩
  | cons b l ih =>
    by_cases hb : b = c
    · subst hb; exact .inr ⟨0, by simp, by simp [Lib.indexByte], by simp, by simp⟩
    · have hb' : (b == c) = false := by simpa using hb
      rcases ih with ⟨ih, ih2⟩ | ⟨k, hk, he, hc, h2⟩
      · exact .inl ⟨by simp [Lib.indexByte, hb', ih], by simpa [hb] using ih2⟩
      · refine .inr ⟨k + 1, by simpa using hk, ?_, by simpa using hc, by simpa [hb] using h2⟩
        simp only [Lib.indexByte, hb', he]
        first | (simp; done) | (simp; omega)
/-- What the search for a line's column ends with. -/
def FindIs (l : List UInt8) (L C : Nat) (z : Nat × Nat) : Prop :=
  (lnsL l < L ∧ z = (0, 2)) ∨
  ∃ at_ wide : Nat, at_ + wide ≤ l.length ∧ lnsL (l.take at_) = L ∧ colL (l.take at_) = 0 ∧ (∀ b ∈ (l.drop at_).take wide, b ≠ 10) ∧ (at_ + wide = l.length ∨ l[at_ + wide]? = some 10) ∧ z = if C ≤ wide then (at_ + C, 0) else (0, 7)
def FindPost (l : List UInt8) (L C : Nat) (w : World) (e : Ending) (w' : World) : Prop :=
  ∃ z, e = .returned (.tuple #[.int .i64 (z.1 : Int), .int .i64 (z.2 : Int)]) ∧ FindIs l L C z ∧ Below w.heap.size w w'
/-- The next line's beginning. -/
theorem next_line (l : List UInt8) (at_ k : Nat) (hc : (l.drop at_)[k]? = some 10) (hn : ∀ b ∈ (l.drop at_).take k, b ≠ 10) : at_ + k + 1 ≤ l.length ∧ lnsL (l.take (at_ + (k + 1))) = lnsL (l.take at_) + 1 ∧ colL (l.take (at_ + (k + 1))) = 0 := by
  obtain ⟨hk, he⟩ := List.getElem?_eq_some_iff.1 hc
  rw [List.length_drop] at hk
  have e : l.take (at_ + (k + 1)) = (l.take at_ ++ (l.drop at_).take k) ++ [10] := by
    rw [List.take_add, List.take_succ_eq_append_getElem (by rw [List.length_drop]; omega), he, List.append_assoc]
  rw [e, lnsL_append, lnsL_append, (lnsL_zero _).2 hn, colL_snoc]
  exact ⟨by omega, rfl, if_pos rfl⟩
theorem no_line (l : List UInt8) (at_ : Nat) (hn : ∀ b ∈ l.drop at_, b ≠ 10) : lnsL l = lnsL (l.take at_) := by
  conv => lhs; rw [← List.take_append_drop at_ l]
  rw [lnsL_append, (lnsL_zero _).2 hn]; rfl

set_option maxRecDepth 100000 in
set_option maxHeartbeats 2000000 in
theorem posFind_any (s : ByteArray) (L C : Nat) (w : World) (hs : s.size ≤ 10000) (hL : L ≤ 100000) (hC : C ≤ 100000) :
    Calls Try.prog 35 #[.string s, .int .i64 L, .int .i64 C] w (FindPost s.data.toList L C w) := by
  have IB := Lib.hid (fun k W => Any.strings_IndexByte ibL (s.extract k s.size) 10 W)
  have hlen : s.data.toList.length = s.size := by simp
  have EX := Lib.hid (fun k : Nat => show (s.extract k s.size).data.toList = s.data.toList.drop k by
    rw [ext_list, List.take_of_length_le]; rw [List.length_drop, hlen]; omega)
  go_enter Try.func35, Try.ntmps35
  go_wp2_with fail
  go_loopw [1, 8] (fun ln a wr => ∃ (q at_ : Nat), ln = .int .i64 q ∧ a = .int .i64 at_ ∧ at_ ≤ s.size ∧ lnsL (s.data.toList.take at_) + q = L ∧ colL (s.data.toList.take at_) = 0 ∧ Below w.heap.size w wr) (fun ln _ _ => (intOf ln).toNat)
  case atStart => exact ⟨L, 0, rfl, rfl, Nat.zero_le _, by simp [lnsL], rfl, Below.refl _ _⟩
  case round =>
    obtain ⟨q, at_, rfl, rfl, ha, hq, hcol, hbel⟩ := hrel
    have HQ := Lib.hid hq
    have HC := Lib.hid hcol
    have EX' := EX.out at_
    have hi := index_cut (s.data.toList.drop at_) 10
    have IB' := Lib.hid (show Calls Try.prog 68 #[.string (s.extract at_ s.size), .int .u8 10] wr fun e w' => e = .returned (.int .i64 (Lib.indexByte (s.data.toList.drop at_) 10)) ∧ w' = wr by
      have := IB.out at_ wr
      rw [EX'] at this
      exact this)
    clear hq hcol EX'
    have hq9 : q ≤ 100000 := by have := HQ.out; omega
    by_cases h0 : q = 0
    · subst h0
      rw [Nat.add_zero] at HQ
      rcases hi with ⟨hi, hn⟩ | ⟨k, hk, hi, hc, hn⟩
      · rw [hi] at IB'
        have HN := Lib.hid hn
        clear hi hn
        by_cases hCw : C ≤ s.size - at_
        · go_wp2_with fail
          refine IB'.out.mono ?_
          rintro e w' ⟨rfl, rfl⟩
          go_wp2_with fail
          go_ret2
          exact ⟨(at_ + C, 0), rfl, .inr ⟨at_, s.size - at_, by omega, HQ.out, HC.out, fun b hb => HN.out b (List.mem_of_mem_take hb), .inl (by omega), by rw [if_pos hCw]⟩, hbel⟩
        · have hCw' : s.size < at_ + C := by omega
          go_wp2_with fail
          refine IB'.out.mono ?_
          rintro e w' ⟨rfl, rfl⟩
          go_wp2_with fail
          go_ret2
          exact ⟨(0, 7), rfl, .inr ⟨at_, s.size - at_, by omega, HQ.out, HC.out, fun b hb => HN.out b (List.mem_of_mem_take hb), .inl (by omega), by rw [if_neg hCw]⟩, hbel⟩
      · rw [hi] at IB'
        have HN := Lib.hid hn
        have HCC := Lib.hid (show s.data.toList[at_ + k]? = some 10 by rw [← hc, List.getElem?_drop])
        clear hi hn hc
        have hk' : at_ + k < s.size := by rw [List.length_drop, hlen] at hk; omega
        clear hk
        by_cases hCw : C ≤ k
        · go_wp2_with fail
          refine IB'.out.mono ?_
          rintro e w' ⟨rfl, rfl⟩
          go_wp2_with fail
          go_ret2
          exact ⟨(at_ + C, 0), rfl, .inr ⟨at_, k, by omega, HQ.out, HC.out, HN.out, .inr HCC.out, by rw [if_pos hCw]⟩, hbel⟩
        · have hCw' : k < C := by omega
          go_wp2_with fail
          refine IB'.out.mono ?_
          rintro e w' ⟨rfl, rfl⟩
          go_wp2_with fail
          go_ret2
          exact ⟨(0, 7), rfl, .inr ⟨at_, k, by omega, HQ.out, HC.out, HN.out, .inr HCC.out, by rw [if_neg hCw]⟩, hbel⟩
    · have h1 : 0 < q := by omega
      clear h0
      rcases hi with ⟨hi, hn⟩ | ⟨k, hk, hi, hc, hn⟩
      · rw [hi] at IB'
        have HN := Lib.hid (no_line _ _ hn)
        clear hi hn
        go_wp2_with fail
        refine IB'.out.mono ?_
        rintro e w' ⟨rfl, rfl⟩
        go_wp2_with fail
        go_ret2
        exact ⟨(0, 2), rfl, .inl ⟨by rw [HN.out]; have := HQ.out; omega, rfl⟩, hbel⟩
      · rw [hi] at IB'
        have NL := Lib.hid (next_line _ _ _ hc hn)
        clear hi hn hc
        have hk' : at_ + k < s.size := by rw [List.length_drop, hlen] at hk; omega
        clear hk
        go_wp2_with fail
        refine IB'.out.mono ?_
        rintro e w' ⟨rfl, rfl⟩
        go_wp2_with fail
        go_roundw
        case rel => exact ⟨q - 1, at_ + (k + 1), by congr 1; omega, by go_num, by omega, by rw [NL.out.2.1]; have := HQ.out; omega, NL.out.2.2, hbel⟩
        case measure => simp [intOf]; omega
end Go.Proofs.Ytcgcakmpjeodfaa
