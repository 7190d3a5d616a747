/-
  The walk of the statements' helper merged: Merge at copies, and once at lines that tell its kind.
-/
import Derived.Test.YtpgjjnbepkofdaaMerge
import Derived.Test.YtpgjjnbepkofdaaMrgF
import Derived.Test.YtpgjjnbepkofdaaTexts
import Derived.Test.YtpgjjnbepkofdaaCopy
namespace Go.Proofs.Ytpgjjnbepkofdaa
open Go.RowKit
set_option linter.unusedVariables false
set_option linter.unusedSimpArgs false

theorem mergeR_left (base a : List ByteArray) : mergeR base a base = (a, 0) := by
  unfold mergeR
  rw [hunks_self]
  exact merge_left _ _ _ _ (by simp)
theorem mergeR_right (base a : List ByteArray) : mergeR base base a = (a, 0) := by
  unfold mergeR
  rw [hunks_self]
  exact merge_right _ _ _ _ (by simp)
theorem mergeR_same (base a : List ByteArray) : mergeR base a a = (a, 0) := by
  unfold mergeR
  exact merge_same _ _ _ _ (Nat.le_add_right _ _)
theorem marks_swap (u v : List ByteArray) : (marksM u v).length = (marksM v u).length := by
  unfold marksM
  simp only [List.length_append, List.length_cons, List.length_nil]
  omega
theorem mergeR_swap (base a b : List ByteArray) : (mergeR base a b).2 = (mergeR base b a).2 ∧ (mergeR base a b).1.length = (mergeR base b a).1.length ∧ ((mergeR base a b).2 = 0 → (mergeR base a b).1 = (mergeR base b a).1) := by
  unfold mergeR
  rw [Nat.add_comm (hunksOf base b).length]
  exact mg_swap marksM marks_swap base _ _ _ _
theorem mergeR_far (head tail u v : List ByteArray) (z : ByteArray) (hz : z ∉ head) (hu : z ∉ u) : mergeR (head ++ z :: tail) (u ++ z :: tail) (head ++ z :: v) = (u ++ z :: v, 0) := by
  unfold mergeR
  exact merge_far marksM head tail u v z hz hu _ (Nat.le_refl _)
def MergedPost (R : List ByteArray × Nat) (w : World) (e : Ending) (w' : World) : Prop :=
  ∃ v, e = .returned (.tuple #[v, .int .i64 (R.2 : Int), .bool true]) ∧ SRow w' v R.1 ∧ Below w.heap.size w w'
def oneA : ByteArray := ⟨#[97]⟩
set_option maxRecDepth 100000 in
set_option maxHeartbeats 4000000 in
theorem merged_any (vn va vb : Value) (base a b : List ByteArray) (w : World) (hn : SRow w vn base) (ha : SRow w va a) (hb : SRow w vb b)
    (hln : base.length ≤ 80) (hla : a.length ≤ 80) (hlb : b.length ≤ 80) (hsn : ∀ s ∈ base, s.size ≤ 600) (hsa : ∀ s ∈ a, s.size ≤ 600) (hsb : ∀ s ∈ b, s.size ≤ 600) :
    Calls Try.prog 14 #[vn, va, vb] w (MergedPost (mergeR base a b) w) := by
  have HA := Lib.hid ha
  have HB := Lib.hid hb
  have HSN := Lib.hid hsn
  have HSA := Lib.hid hsa
  have HSB := Lib.hid hsb
  clear ha hb hsn hsa hsb
  go_enter Try.func14, Try.ntmps14
  go_wp2_with (at_builtin; refine wpList_copyStrs rfl (.tmp 16) _ rfl 9 _ 16 Try.underlying24 string_info rfl vn base rfl hn (by omega) (by omega) ?_)
  intro v1 w1 ho1 hr1 hb1
  have HB1 := Lib.hid (HB.out.later hb1)
  have R1 := Lib.hid hr1
  have BE1 := Lib.hid hb1
  have RA1 := HA.out.later hb1
  clear ho1 hr1 hb1 HA HB
  go_wp2_with (at_builtin; refine wpList_copyStrs rfl (.tmp 18) _ rfl 9 _ 16 Try.underlying24 string_info rfl va a rfl RA1 (by omega) (by omega) ?_)
  intro v2 w2 ho2 hr2 hb2
  have RB2 := HB1.out.later hb2
  have R12 := Lib.hid (R1.out.later hb2)
  have R2 := Lib.hid hr2
  have BE2 := Lib.hid (bstep BE1.out hb2)
  clear ho2 hr2 hb2 HB1 R1 BE1 RA1
  go_wp2_with (at_builtin; refine wpList_copyStrs rfl (.tmp 20) _ rfl 9 _ 16 Try.underlying24 string_info rfl vb b rfl RB2 (by omega) (by omega) ?_)
  intro v3 w3 ho3 hr3 hb3
  have BE3 := Lib.hid (bstep BE2.out hb3)
  have MM := Lib.hid (merge_any v1 v2 v3 base a b w3 (R12.out.later hb3) (R2.out.later hb3) hr3 hln hla hlb HSN.out HSA.out HSB.out)
  clear ho3 hr3 hb3 R12 R2 BE2 RB2
  go_wp2_with fail
  refine MM.out.mono ?_
  rintro e w4 ⟨v4, rfl, hr4, hb4⟩
  have R4 := Lib.hid hr4
  have BE4 := Lib.hid (bstep BE3.out hb4)
  have BN := below_new w4 (.cells #[.string oneA] 9)
  have R5 := Lib.hid (hr4.later BN)
  have BE5 := Lib.hid (bstep BE4.out BN)
  have ONE : SRow (w4.alloc (.cells #[.string oneA] 9)) (.slice (some ⟨w4.heap.size, 0, none⟩) 1 1) [oneA] := ⟨_, _, rfl, Nat.le_refl _, by decide, ⟨rfl, fun _ => ⟨_, rfl, by simp, new_cells w4 [.string oneA] 9⟩⟩⟩
  have M2 := Lib.hid (merge_any (.slice none 0 0) _ (.slice none 0 0) [] [oneA] [] _ (SRow.of_off (OffRow.nil_ _ 0 9 _)) ONE (SRow.of_off (OffRow.nil_ _ 0 9 _)) (by simp) (by simp) (by simp) (by simp) (fun s hs => by rw [List.mem_singleton.1 hs]; decide) (by simp))
  rw [mergeR_left] at M2
  clear MM hr4 hb4 BN ONE R4 BE4 BE3
  go_wp2_with fail
  refine M2.out.mono ?_
  rintro e w6 ⟨v6, rfl, hr6, hb6⟩
  have R6 := Lib.hid (R5.out.later hb6)
  have BE6 := Lib.hid (bstep BE5.out hb6)
  have BN := below_new w6 (.cells #[.string oneA] 9)
  have R7 := Lib.hid (R6.out.later BN)
  have BE7 := Lib.hid (bstep BE6.out BN)
  have ONE : SRow (w6.alloc (.cells #[.string oneA] 9)) (.slice (some ⟨w6.heap.size, 0, none⟩) 1 1) [oneA] := ⟨_, _, rfl, Nat.le_refl _, by decide, ⟨rfl, fun _ => ⟨_, rfl, by simp, new_cells w6 [.string oneA] 9⟩⟩⟩
  have T := Lib.hid (texts_any v6 _ [oneA] [oneA] _ (hr6.later BN) ONE)
  clear M2 hr6 hb6 BN ONE R5 BE5 BE6 R6
  go_wp2_with fail
  refine T.out.mono ?_
  rintro e w8 ⟨rfl, hb8⟩
  have R8 := R7.out.later hb8
  have BE8 := bstep BE7.out hb8
  have dd : decide True = true := decide_eq_true trivial
  rw [dd]
  go_wp2_with fail
  go_ret3
  exact ⟨_, rfl, R8, BE8⟩
end Go.Proofs.Ytpgjjnbepkofdaa
