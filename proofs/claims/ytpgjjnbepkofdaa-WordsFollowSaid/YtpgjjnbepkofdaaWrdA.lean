/-
  The walks of words.Around, of slices.Equal at ints, and of the comparison of words.Update.
-/
import Derived.Test.YtpgjjnbepkofdaaWrdL
import Derived.Test.YtpgjjnbepkofdaaWrdV
namespace Go.Proofs.Ytpgjjnbepkofdaa
open Go.RowKit
set_option linter.unusedVariables false
set_option linter.unusedSimpArgs false

set_option maxRecDepth 100000 in
set_option maxHeartbeats 4000000 in
theorem around_any (text : ByteArray) (p q : Nat) (w : World) (hpq : p ≤ q) (hq : q ≤ text.size) (htx : text.size ≤ 600) :
    Calls Try.prog 43 #[.string text, .int .i64 (p : Int), .int .i64 (q : Int)] w fun e w' => (∃ lo hi : Nat, e = .returned (.tuple #[.int .i64 (lo : Int), .int .i64 (hi : Int)]) ∧ AroundOk text.data.toList p q lo hi) ∧ w = w' := by
  go_enter Try.func43, Try.ntmps43
  go_wp2_with fail
  go_loopw [1] (fun v W => W = w ∧ ∃ lo : Nat, lo ≤ p ∧ v = .int .i64 (lo : Int)) (fun v _ => (intOf v).toNat)
  case atStart => exact ⟨rfl, p, Nat.le_refl _, rfl⟩
  case round =>
    obtain ⟨rfl, lo, hlo, rfl⟩ := hrel
    rcases Nat.eq_zero_or_pos lo with h0 | h0
    · have k0 : decide ((0 : Int) < (lo : Int)) = false := decide_eq_false (by omega)
      have k9 : decide (0 < lo) = false := decide_eq_false (by omega)
      have k8 : ¬ 0 < lo := by omega
      have H0 := Lib.hid h0
      clear h0
      go_wp2_with fail
      go_loopw [2] (fun v W => W = wr ∧ ∃ hi : Nat, q ≤ hi ∧ hi ≤ text.size ∧ v = .int .i64 (hi : Int)) (fun v _ => text.size - (intOf v).toNat)
      case atStart => exact ⟨rfl, q, Nat.le_refl _, hq, rfl⟩
      case round =>
        obtain ⟨rfl, hi, h1, h2, rfl⟩ := hrel
        rcases Nat.lt_or_ge hi text.size with hlt | hge
        · have k1 : (hi : Int) < (text.size : Int) := by omega
          have P := Lib.hid (part1_any text[hi] wr)
          cases hb : partB text[hi] with
          | true =>
            rw [hb] at P
            clear hb
            go_wp2_with fail
            refine P.out.mono ?_
            rintro e w1 ⟨rfl, rfl⟩
            go_wp2_with fail
            exact ⟨⟨trivial, hi + 1, by omega, by omega, by go_num⟩, by simp [intOf]; omega⟩
          | false =>
            rw [hb] at P
            have HB := Lib.hid hb
            clear hb
            go_wp2_with fail
            refine P.out.mono ?_
            rintro e w1 ⟨rfl, rfl⟩
            go_wp2_with fail
            go_ret2
            exact ⟨⟨_, hi, rfl, ⟨by omega, hpq, h1, by simpa using h2, (.inl H0.out), .inr (fun c hc => by
              rw [List.getElem?_eq_getElem (by simpa using hlt), bytes_at text hi hlt] at hc
              injection hc with hc
              rw [← hc]; exact HB.out)⟩⟩, rfl⟩
        · have k1 : decide ((hi : Int) < (text.size : Int)) = false := decide_eq_false (by omega)
          go_wp2_with fail
          go_ret2
          exact ⟨⟨_, hi, rfl, ⟨by omega, hpq, h1, by simpa using h2, (.inl H0.out), .inl (by simp; omega)⟩⟩, rfl⟩
    · obtain ⟨m, rfl⟩ : ∃ m, lo = m + 1 := ⟨lo - 1, by omega⟩
      have hm : m < text.size := by omega
      have k0 : (0 : Int) < (m : Int) + 1 := by omega
      have k1 : (m : Int) + 1 - 1 = (m : Int) := by omega
      have k2 : (0 : Int) ≤ (m : Int) := by omega
      have k3 : (m : Int) < (text.size : Int) := by omega
      have P := Lib.hid (part1_any text[m] wr)
      cases hb : partB text[m] with
      | true =>
        rw [hb] at P
        clear hb
        go_wp2_with fail
        refine P.out.mono ?_
        rintro e w1 ⟨rfl, rfl⟩
        go_wp2_with fail
        exact ⟨⟨trivial, m, by omega, by go_num⟩, by simp [intOf]⟩
      | false =>
        rw [hb] at P
        have hlo9 : m + 1 = 0 ∨ ∀ c, text.data.toList[m + 1 - 1]? = some c → partB c = false := .inr (fun c hc => by
          rw [Nat.add_sub_cancel, List.getElem?_eq_getElem (by simpa using hm), bytes_at text m hm] at hc
          injection hc with hc
          rw [← hc]; exact hb)
        clear hb
        go_wp2_with fail
        refine P.out.mono ?_
        rintro e w1 ⟨rfl, rfl⟩
        have lo1 := Lib.hid hlo9
        clear hlo9
        go_wp2_with fail
        go_loopw [2] (fun v W => W = wr ∧ ∃ hi : Nat, q ≤ hi ∧ hi ≤ text.size ∧ v = .int .i64 (hi : Int)) (fun v _ => text.size - (intOf v).toNat)
        case atStart => exact ⟨rfl, q, Nat.le_refl _, hq, rfl⟩
        case round =>
          obtain ⟨rfl, hi, h1, h2, rfl⟩ := hrel
          rcases Nat.lt_or_ge hi text.size with hlt | hge
          · have k1 : (hi : Int) < (text.size : Int) := by omega
            have P := Lib.hid (part1_any text[hi] wr)
            cases hb : partB text[hi] with
            | true =>
              rw [hb] at P
              clear hb
              go_wp2_with fail
              refine P.out.mono ?_
              rintro e w1 ⟨rfl, rfl⟩
              go_wp2_with fail
              exact ⟨⟨trivial, hi + 1, by omega, by omega, by go_num⟩, by simp [intOf]; omega⟩
            | false =>
              rw [hb] at P
              have HB := Lib.hid hb
              clear hb
              go_wp2_with fail
              refine P.out.mono ?_
              rintro e w1 ⟨rfl, rfl⟩
              go_wp2_with fail
              go_ret2
              exact ⟨⟨_, hi, rfl, ⟨by omega, hpq, h1, by simpa using h2, lo1.out, .inr (fun c hc => by
                rw [List.getElem?_eq_getElem (by simpa using hlt), bytes_at text hi hlt] at hc
                injection hc with hc
                rw [← hc]; exact HB.out)⟩⟩, rfl⟩
          · have k1 : decide ((hi : Int) < (text.size : Int)) = false := decide_eq_false (by omega)
            go_wp2_with fail
            go_ret2
            exact ⟨⟨_, hi, rfl, ⟨by omega, hpq, h1, by simpa using h2, lo1.out, .inl (by simp; omega)⟩⟩, rfl⟩
end Go.Proofs.Ytpgjjnbepkofdaa
