/-
  The walk of SuffixHalf: what is written twice stands there again.
-/
import Derived.Test.YtfpdobjnmnbneaaUnl
import Derived.Test.YtfpdobjnmnbneaaAgnQ
import Derived.Test.YtfpdobjnmnbneaaFew
namespace Go.Proofs.Ytfpdobjnmnbneaa
open Go.RowKit
set_option linter.unusedVariables false
set_option linter.unusedSimpArgs false

set_option maxRecDepth 100000 in
set_option maxHeartbeats 4000000 in
theorem suffixHalf_walk (w : World) (v : Value) (xs : List Int) (hr : Row .i64 w v xs) (b : Int) (hb : -9223372036854775808 ≤ b ∧ b ≤ 9223372036854775807) :
    Calls Try.prog 4 #[v, .int .i64 b] w fun e w' => e = .returned (.bool true) ∧ Below w.heap.size w w' := by
  have FW := Lib.hid (few_any v xs 30 w hr (by omega) (by omega))
  go_enter Try.func4, Try.ntmps4
  go_wp2_with fail
  refine FW.out.mono ?_
  rintro e w1 ⟨s0, rfl, hs0, HB⟩
  have hz0 : s0.size ≤ 30 := by
    have h1 : s0.data.toList.length = s0.size := by simp
    have h2 := congrArg List.length hs0
    rw [h1, List.length_map, List.length_take] at h2
    have : Int.toNat 30 = 30 := rfl
    omega
  clear hs0 FW
  go_wp2_with fail
  have hsz : (s0 ++ (⟨#[97, 98]⟩ : ByteArray)).size = s0.size + 2 := by rw [ByteArray.size_append]; rfl
  generalize s0 ++ (⟨#[97, 98]⟩ : ByteArray) = s at *
  have hs1 : 2 ≤ s.size ∧ s.size ≤ 32 := by omega
  obtain ⟨hs1, hs2⟩ := hs1
  clear hsz hz0
  have hS : s.data.toList.length = s.size := by simp
  have hTT : (s ++ s).data.toList = s.data.toList ++ [] ++ s.data.toList := by rw [append_data, List.append_nil]
  have hTz : (s ++ s).size = s.size + s.size := ByteArray.size_append
  obtain ⟨T, hT⟩ : ∃ T, s ++ s = T := ⟨_, rfl⟩
  rw [hT] at hTT hTz ⊢
  clear hT
  refine (again_any T (by omega) _).mono ?_
  rintro e w2 ⟨o, p, HE, rfl, HB2⟩
  have q1 := again_twice hTT (by simp) (by rw [hS]; omega) HE
  rw [hS] at q1
  obtain ⟨a1, ha1⟩ : ∃ x, (agn (cmn T.data.toList o) o T.size).1 = x := ⟨_, rfl⟩
  obtain ⟨b1, hb1⟩ : ∃ x, (agn (cmn T.data.toList o) o T.size).2 = x := ⟨_, rfl⟩
  rw [hb1] at q1
  rw [ha1, hb1]
  clear ha1 hb1 HE hTT hTz
  go_wp2_with fail
  refine (again_any s (by omega) _).mono ?_
  rintro e w3 ⟨o2, p2, HE2, rfl, HB3⟩
  have q2 := (again_lt hS (by omega) HE2).1
  obtain ⟨a2, ha2⟩ : ∃ x, (agn (cmn s.data.toList o2) o2 s.size).1 = x := ⟨_, rfl⟩
  obtain ⟨b2, hb2⟩ : ∃ x, (agn (cmn s.data.toList o2) o2 s.size).2 = x := ⟨_, rfl⟩
  rw [hb2] at q2
  rw [ha2, hb2]
  have HBB := bstep (bstep HB HB2) HB3
  have l6 : w.heap.size ≤ w3.heap.size := HBB.size
  clear ha2 hb2 HE2 HB HB2 HB3
  have HS := Lib.hid hS
  clear hS
  rcases Int.emod_two_eq b with hx | hx
  · have H3 := Lib.hid hx
    go_wp2_with (go_at_call 18; refine (picked_any b 2 _ hb (by omega) (by omega)).mono ?_; rintro e w' ⟨rfl, rfl⟩)
    have hT3 : (s ++ (⟨#[]⟩ : ByteArray) ++ s).data.toList = s.data.toList ++ (⟨#[]⟩ : ByteArray).data.toList ++ s.data.toList := by rw [append_data, append_data]
    have hTz : (s ++ (⟨#[]⟩ : ByteArray) ++ s).size = s.size + 0 + s.size := by rw [ByteArray.size_append, ByteArray.size_append]; rfl
    generalize s ++ (⟨#[]⟩ : ByteArray) ++ s = U at *
    refine (again_any U (by omega) _).mono ?_
    rintro e w4 ⟨o3, p3, HE3, rfl, HB4⟩
    have HB5 := bstep (HBB.alloc l6 _) HB4
    have q3 := again_twice hT3 (by simp) (by rw [HS.out]; omega) HE3
    rw [HS.out] at q3
    obtain ⟨a3, ha3⟩ : ∃ x, (agn (cmn U.data.toList o3) o3 U.size).1 = x := ⟨_, rfl⟩
    obtain ⟨b3, hb3⟩ : ∃ x, (agn (cmn U.data.toList o3) o3 U.size).2 = x := ⟨_, rfl⟩
    rw [hb3] at q3
    rw [ha3, hb3]
    have HB6 := Lib.hid HB5
    clear ha3 hb3 HB4 HB5 HE3 hT3 hTz
    go_wp2_with fail
    go_ret
    exact ⟨rfl, HB6.out⟩
  · have H3 := Lib.hid hx
    go_wp2_with (go_at_call 18; refine (picked_any b 2 _ hb (by omega) (by omega)).mono ?_; rintro e w' ⟨rfl, rfl⟩)
    have hT3 : (s ++ (⟨#[120]⟩ : ByteArray) ++ s).data.toList = s.data.toList ++ (⟨#[120]⟩ : ByteArray).data.toList ++ s.data.toList := by rw [append_data, append_data]
    have hTz : (s ++ (⟨#[120]⟩ : ByteArray) ++ s).size = s.size + 1 + s.size := by rw [ByteArray.size_append, ByteArray.size_append]; rfl
    generalize s ++ (⟨#[120]⟩ : ByteArray) ++ s = U at *
    refine (again_any U (by omega) _).mono ?_
    rintro e w4 ⟨o3, p3, HE3, rfl, HB4⟩
    have HB5 := bstep (HBB.alloc l6 _) HB4
    have q3 := again_twice hT3 (by simp) (by rw [HS.out]; omega) HE3
    rw [HS.out] at q3
    obtain ⟨a3, ha3⟩ : ∃ x, (agn (cmn U.data.toList o3) o3 U.size).1 = x := ⟨_, rfl⟩
    obtain ⟨b3, hb3⟩ : ∃ x, (agn (cmn U.data.toList o3) o3 U.size).2 = x := ⟨_, rfl⟩
    rw [hb3] at q3
    rw [ha3, hb3]
    have HB6 := Lib.hid HB5
    clear ha3 hb3 HB4 HB5 HE3 hT3 hTz
    go_wp2_with fail
    go_ret
    exact ⟨rfl, HB6.out⟩
end Go.Proofs.Ytfpdobjnmnbneaa
