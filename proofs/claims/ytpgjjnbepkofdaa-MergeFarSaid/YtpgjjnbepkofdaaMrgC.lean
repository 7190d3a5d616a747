/-
  What merge.Merge looks at first (no line is too long), and slices.Equal at strings.
-/
import Derived.Test.YtpgjjnbepkofdaaOpen
import Derived.Handy
import Derived.Deep.QuietTactic
namespace Go.Proofs.Ytpgjjnbepkofdaa
open Go.RowKit
set_option linter.unusedVariables false

theorem merge_index (v : Value) (ss : List ByteArray) (w : World) (hr : SRow w v ss) (hall : ∀ s ∈ ss, s.size ≤ 600) :
    Calls Try.prog 91 #[v, .func (.func 66) #[] #[]] w fun e w' => e = .returned (.int .i64 (-1)) ∧ w = w' := by
  obtain ⟨A, c, rfl, hl, hc, hrd⟩ := hr
  unfold maxLen at hc
  go_enter Try.func91, Try.ntmps91
  go_wp2
  go_loop [8] (fun i => ∃ k : Nat, k ≤ ss.length ∧ i = .int .i64 k) (fun i => ss.length - (intOf i).toNat)
  case atStart => exact ⟨0, Nat.zero_le _, rfl⟩
  case round =>
    obtain ⟨k, hk, rfl⟩ := hrel
    by_cases hlt : k < ss.length
    · obtain ⟨b0, o0, rfl, _, hcell⟩ := SRow.at_ hrd hlt
      have hsz := hall ss[k] (List.getElem_mem hlt)
      generalize ss[k] = s at *
      have hd : decide (600 < (s.size : Int)) = false := by simp; omega
      go_wp2
      go_round
      case rel => exact ⟨k + 1, by omega, by go_num⟩
      case measure => simp [intOf]; omega
    · go_wp2
      go_ret
      exact ⟨rfl, rfl⟩
theorem merge_contains (v : Value) (ss : List ByteArray) (w : World) (hr : SRow w v ss) (hall : ∀ s ∈ ss, s.size ≤ 600) :
    Calls Try.prog 67 #[v, .func (.func 66) #[] #[]] w fun e w' => e = .returned (.bool false) ∧ w = w' := by
  go_enter Try.func67, Try.ntmps67
  go_wp2_with fail
  refine (merge_index v ss _ hr hall).mono ?_
  rintro e w' ⟨rfl, rfl⟩
  go_wp2_with fail
  go_ret
  exact ⟨rfl, rfl⟩
theorem equal_any (va vb : Value) (a b : List ByteArray) (w : World) (ha : SRow w va a) (hb : SRow w vb b) :
    Calls Try.prog 71 #[va, vb] w fun e w' => e = .returned (.bool (decide (a = b))) ∧ Below w.heap.size w w' := by
  obtain ⟨A0, c0, rfl, hl0, hc0, hr0⟩ := ha
  obtain ⟨A1, c1, rfl, hl1, hc1, hr1⟩ := hb
  unfold maxLen at hc0 hc1
  have hne : a.length ≠ b.length → decide (a = b) = false := by
    intro h
    have : ¬ a = b := fun e => h (by rw [e])
    simp [this]
  go_enter Try.func71, Try.ntmps71
  by_cases hll : a.length = b.length
  · have hlb : ((a.length : Int) != (b.length : Int)) = false := by simp [hll]
    have hll2 := Lib.hid hll
    clear hll hne
    go_wp2
    clear hlb
    go_loopw [13] (fun i wr => ∃ k : Nat, k ≤ a.length ∧ i = .int .i64 k ∧ (∀ j, j < k → a[j]? = b[j]?) ∧ Below w.heap.size w wr) (fun i _ => a.length - (intOf i).toNat)
    case atStart => exact ⟨0, Nat.zero_le _, rfl, fun j h => by omega, Below.refl _ _⟩
    case round =>
      obtain ⟨k, hk, rfl, heq, hbel⟩ := hrel
      by_cases hlt : k < a.length
      · have hlt2 : k < b.length := by have := hll2.out; omega
        obtain ⟨b0, o0, rfl, _, hcell0⟩ := SRow.at_ (hr0.below hbel) hlt
        obtain ⟨b1, o1, rfl, _, hcell1⟩ := SRow.at_ (hr1.below hbel) hlt2
        by_cases hs : a[k] = b[k]
        · have H := Lib.hid heq
          have H2 := Lib.hid (show a[k]? = b[k]? by simp [hlt, hlt2, hs])
          clear heq
          rw [← hs] at hcell1
          generalize a[k] = s at *
          have hq : (s.toList == s.toList) = true := bytes_eq rfl
          go_wp2_with fail
          go_quiet (fail)
          go_wp2_with fail
          go_roundw
          case rel =>
            refine ⟨k + 1, by omega, by go_num, fun j hj => ?_, below_drewN hbel _⟩
            by_cases e : j = k
            · subst e; exact H2.out
            · exact H.out j (by omega)
          case measure => simp [intOf]; omega
        · have H2 := Lib.hid (show decide (a = b) = false by
            have : ¬ a = b := fun e => hs (by subst e; rfl)
            simp [this])
          clear heq
          have hq := bytes_ne hs
          generalize a[k] = s at *
          generalize b[k] = t at *
          go_wp2_with fail
          go_quiet (fail)
          go_wp2_with fail
          go_ret
          exact ⟨by rw [H2.out]; rfl, below_drewN hbel _⟩
      · have H2 := Lib.hid (show decide (a = b) = true by
          have : a = b := List.ext_getElem? fun j => by
            by_cases hj : j < k
            · exact heq j hj
            · have := hll2.out
              rw [List.getElem?_eq_none (by omega), List.getElem?_eq_none (by omega)]
          simp [this])
        clear heq
        go_wp2
        go_ret
        exact ⟨by rw [H2.out]; rfl, hbel⟩
  · have H := Lib.hid (hne hll)
    clear hne
    go_wp2
    go_ret
    exact ⟨by rw [H.out]; rfl, Below.refl _ _⟩
end Go.Proofs.Ytpgjjnbepkofdaa
