/-
  The walk of SuffixAgain: what stands there again stands there again, and nothing longer does.
-/
import Derived.Test.YtfpdobjnmnbneaaAgnR
import Derived.Test.YtfpdobjnmnbneaaUnl
import Derived.Test.YtfpdobjnmnbneaaFew
namespace Go.Proofs.Ytfpdobjnmnbneaa
open Go.RowKit
set_option linter.unusedVariables false
set_option linter.unusedSimpArgs false

theorem ext_part (s : ByteArray) (a l : Nat) : (s.extract a (a + l)).data.toList = (s.data.toList.drop a).take l := by
  rw [ByteArray.data_extract, Array.toList_extract, List.extract, show a + l - a = l by omega]
set_option maxRecDepth 100000 in
set_option maxHeartbeats 8000000 in
theorem suffixAgain_walk (w : World) (v : Value) (xs : List Int) (hr : Row .i64 w v xs) :
    Calls Try.prog 6 #[v] w fun e w' => e = .returned (.bool true) ∧ Below w.heap.size w w' := by
  have FW := Lib.hid (few_any v xs 60 w hr (by omega) (by omega))
  go_enter Try.func6, Try.ntmps6
  go_wp2_with fail
  refine FW.out.mono ?_
  rintro e w1 ⟨s0, rfl, hs0, HB⟩
  have hz0 : s0.size ≤ 60 := by
    have h1 : s0.data.toList.length = s0.size := by simp
    have h2 := congrArg List.length hs0
    rw [h1, List.length_map, List.length_take] at h2
    have : Int.toNat 60 = 60 := rfl
    omega
  clear hs0 FW
  go_wp2_with fail
  have hsz : (s0 ++ (⟨#[97, 98]⟩ : ByteArray)).size = s0.size + 2 := by rw [ByteArray.size_append]; rfl
  generalize s0 ++ (⟨#[97, 98]⟩ : ByteArray) = s at *
  have hs1 : 2 ≤ s.size ∧ s.size ≤ 62 := by omega
  obtain ⟨hs1, hs2⟩ := hs1
  clear hsz hz0
  have hS : s.data.toList.length = s.size := by simp
  refine (again_any s (by omega) _).mono ?_
  rintro e w2 ⟨o, p, HE, rfl, HB2⟩
  have q1 := (again_lt hS (by omega) HE).2
  have FND : Hid (0 < (agn (cmn s.data.toList o) o s.size).2 → _) := Lib.hid (fun hl => again_found hS (by omega) HE hl)
  have NON : Hid (∀ i k, k < i → i + (agn (cmn s.data.toList o) o s.size).2 < s.size → _) := Lib.hid (fun i k h1 h2 => again_none hS HE i k h1 h2)
  obtain ⟨at_, hat⟩ : ∃ x, (agn (cmn s.data.toList o) o s.size).1 = x := ⟨_, rfl⟩
  obtain ⟨lg, hlg⟩ : ∃ x, (agn (cmn s.data.toList o) o s.size).2 = x := ⟨_, rfl⟩
  rw [hat, hlg] at q1 FND
  rw [hlg] at NON
  rw [hat, hlg]
  have HB3 := bstep HB HB2
  clear hat hlg HB HB2 HE hS
  by_cases hl : 0 < lg ∧ lg ≤ 20
  · obtain ⟨hl1, hl2⟩ := hl
    have FN2 := FND.out hl1
    have c1 : (at_ : Int) + (lg : Int) ≤ (s.size : Int) := by omega
    have c2 : (0 : Int) ≤ (at_ : Int) := by omega
    have c3 : (at_ : Int) ≤ (at_ : Int) + (lg : Int) := by omega
    have hF : (s.extract at_ (at_ + lg)).data.toList = (s.data.toList.drop at_).take lg := ext_part _ _ _
    have hFz : (s.extract at_ (at_ + lg)).size = lg := by rw [ByteArray.size_extract]; omega
    rw [← hF] at FN2
    have FN3 := Lib.hid FN2
    clear FN2 hF
    have HFZ := Lib.hid hFz
    clear hFz
    go_wp2_with fail
    generalize s.extract at_ (at_ + lg) = F at *
    refine (sufFind_any s F (by omega) (by omega) (by rw [HFZ.out]; omega) (by rw [HFZ.out]; omega) _).mono ?_
    rintro e w3 ⟨vx, rfl, hown, HB5⟩
    have HB4 := bstep HB3 HB5
    clear HB3 HB5
    obtain ⟨m1, m2⟩ := FN3.out
    generalize occF s.data.toList F.data.toList = l at *
    rcases hown.2 with ⟨_, h0⟩ | ⟨g, cap, cur, rfl, hb, hh, hnc, hcm, hcs, hct⟩
    · omega
    · have k0 : w3.cell? ⟨g, 0, none⟩ = some (.int .i64 (at_ : Int)) := by
        have := hown.cells (g := g) rfl 0 (.int .i64 (at_ : Int)) (by
          rw [List.getElem?_map, List.getElem?_map]
          have : l[0]? = some at_ := by
            rw [List.getElem?_eq_getElem (by omega)]
            rw [List.getD_eq_getElem?_getD, List.getElem?_eq_getElem (by omega)] at m2
            exact congrArg some m2
          rw [this]; rfl)
        exact this
      obtain ⟨m, hm⟩ : ∃ m, l.length = m := ⟨_, rfl⟩
      rw [hm] at m1
      have m3 : decide ((m : Int) < 2) = false := decide_eq_false (by omega)
      have m4 : (0 : Int) < (m : Int) := by omega
      have m5 : ((at_ : Int) != (at_ : Int)) = false := by simp
      clear m2 hown FN3 hb hh hnc hcm hcs hct
      rw [hm]
      clear hm
      go_wp2_with fail
      go_loopw [9, 10] (fun vi _ W => ∃ i : Nat, i ≤ s.size ∧ vi = .int .i64 (i : Int) ∧ Below w.heap.size w W) (fun vi _ _ => s.size - (intOf vi).toNat)
      case atStart => exact ⟨0, Nat.zero_le _, rfl, HB4⟩
      case round =>
        clear HB4
        obtain ⟨i, hi, rfl, HB4⟩ := hrel
        by_cases hlt : i + lg < s.size
        · have i1 : (i : Int) + (lg : Int) < (s.size : Int) := by omega
          go_wp2_with fail
          go_loopw [10] (fun vk W => ∃ k : Nat, k ≤ i ∧ vk = .int .i64 (k : Int) ∧ Below w.heap.size w W) (fun vk _ => i - (intOf vk).toNat)
          case atStart => exact ⟨0, Nat.zero_le _, rfl, HB4⟩
          case round =>
            clear HB4
            obtain ⟨k, hk, rfl, HB4⟩ := hrel
            by_cases hlt2 : k < i
            · have i2 : (i : Int) + (lg : Int) + 1 ≤ (s.size : Int) := by omega
              have i3 : (k : Int) + (lg : Int) + 1 ≤ (s.size : Int) := by omega
              have i4 : (i : Int) ≤ (i : Int) + (lg : Int) + 1 := by omega
              have i5 : (k : Int) ≤ (k : Int) + (lg : Int) + 1 := by omega
              have i6 : (0 : Int) ≤ (k : Int) := by omega
              have i7 : (0 : Int) ≤ (i : Int) := by omega
              have hne : ((s.extract i (i + lg + 1)).toList == (s.extract k (k + lg + 1)).toList) = false := by
                rw [beq_eq_false_iff_ne, ByteArray.toList_eq, ByteArray.toList_eq, Nat.add_assoc, Nat.add_assoc, ext_part, ext_part]
                exact NON.out i k hlt2 hlt
              go_wp2_with fail
              go_quiet (fail)
              go_wp2_with fail
              exact ⟨⟨k + 1, by omega, by go_num, below_drewN HB4 _⟩, by simp [intOf]; omega⟩
            · obtain rfl : k = i := by omega
              go_wp2_with fail
              exact ⟨⟨k + 1, by omega, by go_num, HB4⟩, by simp [intOf]; omega⟩
        · have i1 : decide ((i : Int) + (lg : Int) < (s.size : Int)) = false := decide_eq_false (by omega)
          go_wp2_with fail
          refine (unlike_any s (by omega) _).mono ?_
          rintro e w9 ⟨o9, p9, HE9, rfl, HB9⟩
          obtain ⟨L, u1, u2, u3⟩ := unlike_list (show s.data.toList.length = s.size by simp) HE9
          have u4 := subs_least u2
          rw [u3]
          have hS : s.data.toList.length = s.size := by simp
          rw [hS] at u4
          obtain ⟨N, hN⟩ : ∃ N, L.length = N := ⟨_, rfl⟩
          rw [hN] at u4
          rw [hN]
          have HBF := Lib.hid (bstep HB4 HB9)
          clear hN u3 u2 u1 HE9 hS HB4 HB9
          go_wp2_with fail
          go_ret
          exact ⟨rfl, HBF.out⟩
  · have HB4 := HB3
    clear HB3
    rcases Nat.eq_zero_or_pos lg with e | e
    · have HL0 := Lib.hid e
      have b1 : decide ((0 : Int) < (lg : Int)) = false := decide_eq_false (by omega)
      have b2 : decide (0 < lg) = false := decide_eq_false (by omega)
      clear hl e
      go_wp2_with fail
      go_loopw [9, 10] (fun vi _ W => ∃ i : Nat, i ≤ s.size ∧ vi = .int .i64 (i : Int) ∧ Below w.heap.size w W) (fun vi _ _ => s.size - (intOf vi).toNat)
      case atStart => exact ⟨0, Nat.zero_le _, rfl, HB4⟩
      case round =>
        clear HB4
        obtain ⟨i, hi, rfl, HB4⟩ := hrel
        by_cases hlt : i + lg < s.size
        · have i1 : (i : Int) + (lg : Int) < (s.size : Int) := by omega
          go_wp2_with fail
          go_loopw [10] (fun vk W => ∃ k : Nat, k ≤ i ∧ vk = .int .i64 (k : Int) ∧ Below w.heap.size w W) (fun vk _ => i - (intOf vk).toNat)
          case atStart => exact ⟨0, Nat.zero_le _, rfl, HB4⟩
          case round =>
            clear HB4
            obtain ⟨k, hk, rfl, HB4⟩ := hrel
            by_cases hlt2 : k < i
            · have i2 : (i : Int) + (lg : Int) + 1 ≤ (s.size : Int) := by omega
              have i3 : (k : Int) + (lg : Int) + 1 ≤ (s.size : Int) := by omega
              have i4 : (i : Int) ≤ (i : Int) + (lg : Int) + 1 := by omega
              have i5 : (k : Int) ≤ (k : Int) + (lg : Int) + 1 := by omega
              have i6 : (0 : Int) ≤ (k : Int) := by omega
              have i7 : (0 : Int) ≤ (i : Int) := by omega
              have hne : ((s.extract i (i + lg + 1)).toList == (s.extract k (k + lg + 1)).toList) = false := by
                rw [beq_eq_false_iff_ne, ByteArray.toList_eq, ByteArray.toList_eq, Nat.add_assoc, Nat.add_assoc, ext_part, ext_part]
                exact NON.out i k hlt2 hlt
              go_wp2_with fail
              go_quiet (fail)
              go_wp2_with fail
              exact ⟨⟨k + 1, by omega, by go_num, below_drewN HB4 _⟩, by simp [intOf]; omega⟩
            · obtain rfl : k = i := by omega
              go_wp2_with fail
              exact ⟨⟨k + 1, by omega, by go_num, HB4⟩, by simp [intOf]; omega⟩
        · have i1 : decide ((i : Int) + (lg : Int) < (s.size : Int)) = false := decide_eq_false (by omega)
          go_wp2_with fail
          refine (unlike_any s (by omega) _).mono ?_
          rintro e w9 ⟨o9, p9, HE9, rfl, HB9⟩
          obtain ⟨L, u1, u2, u3⟩ := unlike_list (show s.data.toList.length = s.size by simp) HE9
          have u4 := subs_least u2
          rw [u3]
          have hS : s.data.toList.length = s.size := by simp
          rw [hS] at u4
          obtain ⟨N, hN⟩ : ∃ N, L.length = N := ⟨_, rfl⟩
          rw [hN] at u4
          rw [hN]
          have HBF := Lib.hid (bstep HB4 HB9)
          clear hN u3 u2 u1 HE9 hS HB4 HB9
          go_wp2_with fail
          go_ret
          exact ⟨rfl, HBF.out⟩
    · have b1 : decide ((lg : Int) ≤ 20) = false := decide_eq_false (by omega)
      have b2 : decide (lg ≤ 20) = false := decide_eq_false (by omega)
      clear hl
      go_wp2_with fail
      go_loopw [9, 10] (fun vi _ W => ∃ i : Nat, i ≤ s.size ∧ vi = .int .i64 (i : Int) ∧ Below w.heap.size w W) (fun vi _ _ => s.size - (intOf vi).toNat)
      case atStart => exact ⟨0, Nat.zero_le _, rfl, HB4⟩
      case round =>
        clear HB4
        obtain ⟨i, hi, rfl, HB4⟩ := hrel
        by_cases hlt : i + lg < s.size
        · have i1 : (i : Int) + (lg : Int) < (s.size : Int) := by omega
          go_wp2_with fail
          go_loopw [10] (fun vk W => ∃ k : Nat, k ≤ i ∧ vk = .int .i64 (k : Int) ∧ Below w.heap.size w W) (fun vk _ => i - (intOf vk).toNat)
          case atStart => exact ⟨0, Nat.zero_le _, rfl, HB4⟩
          case round =>
            clear HB4
            obtain ⟨k, hk, rfl, HB4⟩ := hrel
            by_cases hlt2 : k < i
            · have i2 : (i : Int) + (lg : Int) + 1 ≤ (s.size : Int) := by omega
              have i3 : (k : Int) + (lg : Int) + 1 ≤ (s.size : Int) := by omega
              have i4 : (i : Int) ≤ (i : Int) + (lg : Int) + 1 := by omega
              have i5 : (k : Int) ≤ (k : Int) + (lg : Int) + 1 := by omega
              have i6 : (0 : Int) ≤ (k : Int) := by omega
              have i7 : (0 : Int) ≤ (i : Int) := by omega
              have hne : ((s.extract i (i + lg + 1)).toList == (s.extract k (k + lg + 1)).toList) = false := by
                rw [beq_eq_false_iff_ne, ByteArray.toList_eq, ByteArray.toList_eq, Nat.add_assoc, Nat.add_assoc, ext_part, ext_part]
                exact NON.out i k hlt2 hlt
              go_wp2_with fail
              go_quiet (fail)
              go_wp2_with fail
              exact ⟨⟨k + 1, by omega, by go_num, below_drewN HB4 _⟩, by simp [intOf]; omega⟩
            · obtain rfl : k = i := by omega
              go_wp2_with fail
              exact ⟨⟨k + 1, by omega, by go_num, HB4⟩, by simp [intOf]; omega⟩
        · have i1 : decide ((i : Int) + (lg : Int) < (s.size : Int)) = false := decide_eq_false (by omega)
          go_wp2_with fail
          refine (unlike_any s (by omega) _).mono ?_
          rintro e w9 ⟨o9, p9, HE9, rfl, HB9⟩
          obtain ⟨L, u1, u2, u3⟩ := unlike_list (show s.data.toList.length = s.size by simp) HE9
          have u4 := subs_least u2
          rw [u3]
          have hS : s.data.toList.length = s.size := by simp
          rw [hS] at u4
          obtain ⟨N, hN⟩ : ∃ N, L.length = N := ⟨_, rfl⟩
          rw [hN] at u4
          rw [hN]
          have HBF := Lib.hid (bstep HB4 HB9)
          clear hN u3 u2 u1 HE9 hS HB4 HB9
          go_wp2_with fail
          go_ret
          exact ⟨rfl, HBF.out⟩
end Go.Proofs.Ytfpdobjnmnbneaa
