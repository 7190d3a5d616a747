/-
  The walk of lines.may at starts of a text. Nothing that was there is changed.
-/
import Derived.Test.YtcgcakmpjeodfaaUpdP
import Derived.BigQuiet
import Derived.Deep.QuietTactic
namespace Go.Proofs.Ytcgcakmpjeodfaa
open Go.RowKit
set_option linter.unusedVariables false

/-- Starts that may be: they begin with 0, ascend and are small. -/
def Asc (L : List Int) : Prop := 0 < L.length ∧ L.getD 0 0 = 0 ∧ (∀ i, i + 1 < L.length → L.getD i 0 < L.getD (i + 1) 0) ∧ ∀ i, L.getD i 0 ≤ 600
theorem asc_starts (s : ByteArray) (h : s.size ≤ 600) : Asc (starts s.data.toList) := by
  have hl : s.data.toList.length = s.size := by simp
  refine ⟨by simp [starts], by simp [starts], fun i hi => starts_mono _ i hi, fun i => ?_⟩
  have := starts_le s.data.toList i
  omega

set_option maxRecDepth 100000 in
set_option maxHeartbeats 2000000 in
theorem may_any (v : Value) (L : List Int) (w : World) (h : Row .i64 w v L) (ha : Asc L) (hl : L.length ≤ 1000) :
    Calls Try.prog 45 #[v] w fun e w' => e = .returned (.bool true) ∧ w = w' := by
  obtain ⟨h0, h1, h2, h3⟩ := ha
  obtain ⟨A, cap, rfl, hlc, hcap, hwf, hrd⟩ := h
  unfold maxLen at hcap
  obtain ⟨bA, oA, rfl, hbA, hcA⟩ := hrd.plain h0 (by omega)
  have hcell : ∀ i, i < L.length → w.cell? ⟨bA, oA + i, none⟩ = some (.int .i64 (L.getD i 0)) := fun i hi => hcA i _ (by simp [List.getD, hi])
  have HC := Lib.hid hcell
  have H1 := Lib.hid h1
  have H2 := Lib.hid h2
  have H3 := Lib.hid h3
  clear hcA hcell hrd hwf h1 h2 h3
  go_enter Try.func45, Try.ntmps45
  go_wp2_with fail
  go_loop [7] (fun i => ∃ k : Nat, k ≤ L.length ∧ i = .int .i64 k) (fun i => L.length - (intOf i).toNat)
  case atStart => exact ⟨0, Nat.zero_le _, rfl⟩
  case round =>
    obtain ⟨k, hk, rfl⟩ := hrel
    by_cases hlt : k < L.length
    · have c1 := HC.out k hlt
      rcases k with _ | k
      · rw [Nat.add_zero] at c1
        generalize L.getD 0 0 = y at *
        go_wp2_with fail
        go_round
        case rel => exact ⟨1, by omega, by go_num⟩
        case measure => simp [intOf]; omega
      · have c0 := HC.out k (by omega)
        have hh := H2.out k hlt
        generalize L.getD (k + 1) 0 = y at *
        generalize L.getD k 0 = x at *
        go_wp2_with fail
        go_round
        case rel => exact ⟨k + 1 + 1, by omega, by go_num⟩
        case measure => simp [intOf]; omega
    · obtain rfl : k = L.length := by omega
      have c0 := HC.out 0 h0
      rw [H1.out, Nat.add_zero] at c0
      have c1 := HC.out (L.length - 1) (by omega)
      have b1 := H3.out (L.length - 1)
      have z1 : ((L.length : Int) - 1) = ((L.length - 1 : Nat) : Int) := by omega
      obtain ⟨m, hm⟩ : ∃ m, L.length = m + 1 := ⟨L.length - 1, by omega⟩
      have HM := Lib.hid hm
      have hm9 : m ≤ 1000 := by omega
      have e1 : L.length - 1 = m := by omega
      rw [e1] at c1 b1
      generalize L.getD m 0 = y at *
      clear e1 z1 hm
      clear hlt
      rw [HM.out]
      clear hl h0 hlc hk
      go_wp2_with fail
      go_ret
      exact ⟨rfl, rfl⟩
end Go.Proofs.Ytcgcakmpjeodfaa
