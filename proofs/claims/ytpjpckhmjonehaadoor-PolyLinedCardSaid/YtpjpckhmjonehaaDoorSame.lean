/-
  The walk of sameInts: are two slices of integers the same lists? Nothing that was there is changed.
-/
import Derived.Test.YtpjpckhmjonehaaDoorOpen
import Derived.BigQuiet
import Derived.Deep.QuietTactic
namespace Go.Proofs.YtpjpckhmjonehaaDoor
open Go.RowKit
set_option linter.unusedVariables false

set_option maxRecDepth 100000 in
set_option maxHeartbeats 2000000 in
theorem sameInts_any (v1 v2 : Value) (xs ys : List Int) (w : World) (h1 : Row .i64 w v1 xs) (h2 : Row .i64 w v2 ys) :
    Calls Tryd.prog 7 #[v1, v2] w fun e w' => e = .returned (.bool (decide (xs = ys))) ∧ Below w.heap.size w w' := by
  obtain ⟨A1, c1, rfl, hl1, hc1, _, hr1⟩ := h1
  obtain ⟨A2, c2, rfl, hl2, hc2, _, hr2⟩ := h2
  unfold maxLen at hc1 hc2
  by_cases hl : xs.length = ys.length
  · have hb1 : ((ys.length : Int) != (ys.length : Int)) = false := by simp
    rw [hl] at hr1 hl1 ⊢
    have HL := Lib.hid hl
    clear hl
    obtain ⟨r, hr⟩ : ∃ r, decide (xs = ys) = r := ⟨_, rfl⟩
    rw [hr]
    have HR := Lib.hid hr
    clear hr
    go_enter Tryd.func7, Tryd.ntmps7
    go_wp2_with fail
    go_loopw [5] (fun i wr => ∃ k q : Nat, k ≤ ys.length ∧ i = .int .i64 k ∧ Hid (xs.take k = ys.take k) ∧ wr = w.drewN q) (fun i _ => ys.length - (intOf i).toNat)
    case atStart => exact ⟨0, 0, Nat.zero_le _, rfl, Lib.hid rfl, rfl⟩
    case round =>
      obtain ⟨k, q, hk, rfl, HT, rfl⟩ := hrel
      by_cases hlt : k < ys.length
      · have hlx : k < xs.length := by rw [HL.out]; exact hlt
        obtain ⟨b1, o1, rfl, _, x1⟩ := Row.at_ (xs := xs) (by rw [HL.out]; exact hr1) hlx
        obtain ⟨b2, o2, rfl, _, x2⟩ := Row.at_ hr2 hlt
        have g1 : xs.getD k 0 = xs[k] := by simp [List.getD, hlx]
        have g2 : ys.getD k 0 = ys[k] := by simp [List.getD, hlt]
        rw [g1] at x1
        rw [g2] at x2
        have hk0 : (0 : Int) ≤ (k : Int) := by omega
        have hk1 : (k : Int) < (ys.length : Int) := by omega
        by_cases he : xs[k] = ys[k]
        · have HT2 := Lib.hid (show xs.take (k + 1) = ys.take (k + 1) by rw [List.take_succ_eq_append_getElem hlx, List.take_succ_eq_append_getElem hlt, HT.out, he])
          rw [he] at x1
          have hb : (ys[k] != ys[k]) = false := by simp
          clear g1 g2 he hb1
          generalize ys[k] = y at *
          go_wp2_with fail
          go_quiet (fail)
          go_wp2_with fail
          go_roundw
          case rel => exact ⟨k + 1, q + nq, by omega, by go_num, HT2, rfl⟩
          case measure => simp [intOf]; omega
        · have hne : decide (xs = ys) = false := by
            rw [decide_eq_false_iff_not]; intro e; subst e; exact he rfl
          have HNE := Lib.hid hne
          have hb : (xs[k] != ys[k]) = true := by rw [bne_iff_ne]; exact he
          clear g1 g2 he hb1 hne
          generalize ys[k] = y at *
          generalize xs[k] = x at *
          go_wp2_with fail
          go_quiet (fail)
          go_wp2_with fail
          go_ret
          exact ⟨ret_bool (by rw [← HR.out]; exact HNE.out.symm), below_drewN (below_drewN (Below.refl _ _) _) _⟩
      · have hfin : decide (xs = ys) = true := by
          rw [decide_eq_true_iff]
          have := HT.out
          rwa [List.take_of_length_le (by rw [HL.out]; omega), List.take_of_length_le (by omega)] at this
        have HFIN := Lib.hid hfin
        clear hfin
        go_wp2_with fail
        go_ret
        exact ⟨ret_bool (by rw [← HR.out]; exact HFIN.out.symm), below_drewN (Below.refl _ _) _⟩
  · have hne : decide (xs = ys) = false := by rw [decide_eq_false_iff_not]; intro e; subst e; exact hl rfl
    rw [hne]
    have hb1 : ((xs.length : Int) != (ys.length : Int)) = true := by rw [bne_iff_ne]; omega
    clear hne hl
    go_enter Tryd.func7, Tryd.ntmps7
    go_wp2_with fail
    go_ret
    exact ⟨rfl, Below.refl _ _⟩

end Go.Proofs.YtpjpckhmjonehaaDoor
