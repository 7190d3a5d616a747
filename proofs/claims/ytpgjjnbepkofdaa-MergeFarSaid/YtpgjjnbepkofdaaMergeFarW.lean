/-
  The walk of the law MergeFar: whatever the slices, it returns true and changes nothing that was there.
-/
import Derived.Test.YtpgjjnbepkofdaaMerged
import Derived.Test.YtpgjjnbepkofdaaLn
import Derived.Test.YtpgjjnbepkofdaaPick
namespace Go.Proofs.Ytpgjjnbepkofdaa
open Go.RowKit
set_option linter.unusedVariables false
set_option linter.unusedSimpArgs false

def dashes : ByteArray := ⟨#[45, 45]⟩
set_option maxRecDepth 100000 in
set_option maxHeartbeats 4000000 in
theorem mergeFar_walk (w : World) (v0 : Value) (l : List Int) (h0 : Row .i64 w v0 l) (v1 : Value) (m : List Int) (h1 : Row .i64 w v1 m) (v2 : Value) (o : List Int) (h2 : Row .i64 w v2 o) (v3 : Value) (p : List Int) (h3 : Row .i64 w v3 p) :
    Calls Try.prog 5 #[v0, v1, v2, v3] w fun e w' => e = .returned (.bool true) ∧ Below w.heap.size w w' := by
  obtain ⟨i0, hi, hz0, hz1, hz2⟩ := info_parts string_info
  go_enter Try.func5, Try.ntmps5
  go_wp2_with fail
  refine (lines1_any v0 l 12 5 _ h0 (by omega) (by omega) (by omega)).mono ?_
  rintro e w1 ⟨va, a, rfl, sa, la, za, hb1⟩
  go_wp2_with fail
  refine (lines1_any v1 m 12 5 _ (h1.later hb1) (by omega) (by omega) (by omega)).mono ?_
  rintro e w2 ⟨vb, b, rfl, sb, lb, zb, hb2⟩
  have SA := Lib.hid (sa.later hb2)
  have SB := Lib.hid sb
  have BE := Lib.hid (bstep hb1 hb2)
  have ZA := Lib.hid za
  have ZB := Lib.hid zb
  have H2 := Lib.hid (h2.later BE.out)
  have H3 := Lib.hid (h3.later BE.out)
  obtain ⟨Ab, cb, rfl, hb11, hb12, _⟩ := id sb
  clear sa sb hb1 hb2 h0 h1 h2 h3 za zb
  go_wp2_with (at_builtin; refine wpList_copyStrs rfl (.tmp 24) _ rfl 9 _ 16 Try.underlying24 string_info rfl _ a rfl SA.out (by omega) (by omega) ?_)
  intro vj1 wj1 ho1 hr1 hb1
  have HO1 := Lib.hid ho1
  have BA := below_new wj1 (.cells #[.string dashes] 9)
  have HO2 := Lib.hid (own_below ho1 BA)
  have HB2 := Lib.hid (bstep hb1 BA)
  clear ho1 hr1 hb1 BA HO1
  go_wp2_with (at_builtin; refine wpList_append_any _ rfl (.tmp 25) (.tmp 26) _ rfl w2.heap.size 9 i0 _ 1 16 Try.underlying24 hi hz0 hz1 hz2 rfl (by decide) vj1 (a).length ((a).map .string) rfl HO2.out _ _ 1 _ (([dashes] : List ByteArray).map .string) rfl (reads_new wj1 (.string dashes) 9) (strs_one _) (by unfold maxLen; omega) (by omega) HB2.out.size ?_)
  intro vj2 wj2 h21 h22 h23
  have HB3 := Lib.hid (HB2.out.grown h22 HB2.out.size (fun q hq => (HO2.out.lt q hq).1))
  have HO3 := Lib.hid (show wj2.ownsRow w2.heap.size 9 1 vj2 (a ++ [dashes]).length ((a ++ [dashes]).map .string) by rw [List.length_append, List.map_append]; exact h21)
  have RQ3 := Lib.hid (SB.out.later HB3.out)
  obtain ⟨Aq, cq, eq_, hq1, hq2, hq3⟩ := id RQ3.out
  injection eq_ with e1_ e2_ e3_
  subst e1_; subst e3_
  clear e2_
  have HQ3 := Lib.hid hq3
  clear h21 h22 h23 HO2 HB2 hq3
  go_wp2_with (at_builtin; refine wpList_append_any _ rfl (.tmp 27) (.tmp 28) _ rfl w2.heap.size 9 i0 _ 1 16 Try.underlying24 hi hz0 hz1 hz2 rfl (by decide) vj2 (a ++ [dashes]).length ((a ++ [dashes]).map .string) rfl HO3.out _ _ (b).length _ ((b).map .string) rfl HQ3.out (strs_one _) (by rw [List.length_append, List.length_singleton]; unfold maxLen; omega) (by rw [List.length_append, List.length_singleton]; omega) HB3.out.size ?_)
  intro vba w3 h31 h32 h33
  have HB4 := Lib.hid (HB3.out.grown h32 HB3.out.size (fun q hq => (HO3.out.lt q hq).1))
  have RBA := Lib.hid (show SRow w3 vba (a ++ dashes :: b) from SRow.of_own (by
    have e : (a ++ dashes :: b).length = (a).length + 1 + (b).length := by rw [List.length_append, List.length_cons]; omega
    have e2 : (a ++ dashes :: b).map Value.string = (a).map .string ++ .string dashes :: (b).map .string := by rw [List.map_append, List.map_cons]
    rw [e, e2]
    exact h31))
  clear h31 h32 h33 HO3 HB3 RQ3 HQ3
  have BE3 := Lib.hid (bstep BE.out HB4.out)
  have SA3 := Lib.hid (SA.out.later HB4.out)
  have SB3 := Lib.hid (SB.out.later HB4.out)
  have H23 := H2.out.later HB4.out
  have H33 := Lib.hid (H3.out.later HB4.out)
  clear BE SA SB H2 H3 HB4
  go_wp2_with fail
  refine (lines1_any v2 o 12 5 _ H23 (by omega) (by omega) (by omega)).mono ?_
  rintro e w4 ⟨vu, u, rfl, su, lu, zu, hb4⟩
  have H34 := H33.out.later hb4
  go_wp2_with fail
  refine (lines1_any v3 p 12 5 _ H34 (by omega) (by omega) (by omega)).mono ?_
  rintro e w5 ⟨vv, v, rfl, sv, lv, zv, hb5⟩
  have hb6 := bstep hb4 hb5
  have BE5 := Lib.hid (bstep BE3.out hb6)
  have SA5 := Lib.hid (SA3.out.later hb6)
  have SB5 := Lib.hid (SB3.out.later hb6)
  have RBA5 := Lib.hid (RBA.out.later hb6)
  have SU5 := Lib.hid (su.later hb5)
  have SV5 := Lib.hid sv
  have ZU := Lib.hid zu
  have ZV := Lib.hid zv
  clear hb4 hb5 hb6 su sv zu zv BE3 SA3 SB3 RBA H33 H23 H34
  obtain ⟨Av, cv, rfl, hv11, hv12, _⟩ := id SV5.out
  go_wp2_with (at_builtin; refine wpList_copyStrs rfl (.tmp 34) _ rfl 9 _ 16 Try.underlying24 string_info rfl _ u rfl SU5.out (by omega) (by omega) ?_)
  intro vj1 wj1 ho1 hr1 hb1
  have HO1 := Lib.hid ho1
  have BA := below_new wj1 (.cells #[.string dashes] 9)
  have HO2 := Lib.hid (own_below ho1 BA)
  have HB2 := Lib.hid (bstep hb1 BA)
  clear ho1 hr1 hb1 BA HO1
  go_wp2_with (at_builtin; refine wpList_append_any _ rfl (.tmp 35) (.tmp 36) _ rfl w5.heap.size 9 i0 _ 1 16 Try.underlying24 hi hz0 hz1 hz2 rfl (by decide) vj1 (u).length ((u).map .string) rfl HO2.out _ _ 1 _ (([dashes] : List ByteArray).map .string) rfl (reads_new wj1 (.string dashes) 9) (strs_one _) (by unfold maxLen; omega) (by omega) HB2.out.size ?_)
  intro vj2 wj2 h21 h22 h23
  have HB3 := Lib.hid (HB2.out.grown h22 HB2.out.size (fun q hq => (HO2.out.lt q hq).1))
  have HO3 := Lib.hid (show wj2.ownsRow w5.heap.size 9 1 vj2 (u ++ [dashes]).length ((u ++ [dashes]).map .string) by rw [List.length_append, List.map_append]; exact h21)
  have RQ3 := Lib.hid (SB5.out.later HB3.out)
  obtain ⟨Aq, cq, eq_, hq1, hq2, hq3⟩ := id RQ3.out
  injection eq_ with e1_ e2_ e3_
  subst e1_; subst e3_
  clear e2_
  have HQ3 := Lib.hid hq3
  clear h21 h22 h23 HO2 HB2 hq3
  go_wp2_with (at_builtin; refine wpList_append_any _ rfl (.tmp 37) (.tmp 38) _ rfl w5.heap.size 9 i0 _ 1 16 Try.underlying24 hi hz0 hz1 hz2 rfl (by decide) vj2 (u ++ [dashes]).length ((u ++ [dashes]).map .string) rfl HO3.out _ _ (b).length _ ((b).map .string) rfl HQ3.out (strs_one _) (by rw [List.length_append, List.length_singleton]; unfold maxLen; omega) (by rw [List.length_append, List.length_singleton]; omega) HB3.out.size ?_)
  intro vua w6 h31 h32 h33
  have HB4 := Lib.hid (HB3.out.grown h32 HB3.out.size (fun q hq => (HO3.out.lt q hq).1))
  have RUA := Lib.hid (show SRow w6 vua (u ++ dashes :: b) from SRow.of_own (by
    have e : (u ++ dashes :: b).length = (u).length + 1 + (b).length := by rw [List.length_append, List.length_cons]; omega
    have e2 : (u ++ dashes :: b).map Value.string = (u).map .string ++ .string dashes :: (b).map .string := by rw [List.map_append, List.map_cons]
    rw [e, e2]
    exact h31))
  clear h31 h32 h33 HO3 HB3 RQ3 HQ3
  have BE6 := Lib.hid (bstep BE5.out HB4.out)
  have SA6 := Lib.hid (SA5.out.later HB4.out)
  have RBA6 := Lib.hid (RBA5.out.later HB4.out)
  have SU6 := Lib.hid (SU5.out.later HB4.out)
  have SV6 := Lib.hid (SV5.out.later HB4.out)
  clear BE5 SA5 SB5 RBA5 SU5 SV5 HB4
  go_wp2_with (at_builtin; refine wpList_copyStrs rfl (.tmp 40) _ rfl 9 _ 16 Try.underlying24 string_info rfl _ a rfl SA6.out (by omega) (by omega) ?_)
  intro vj1 wj1 ho1 hr1 hb1
  have HO1 := Lib.hid ho1
  have BA := below_new wj1 (.cells #[.string dashes] 9)
  have HO2 := Lib.hid (own_below ho1 BA)
  have HB2 := Lib.hid (bstep hb1 BA)
  clear ho1 hr1 hb1 BA HO1
  go_wp2_with (at_builtin; refine wpList_append_any _ rfl (.tmp 41) (.tmp 42) _ rfl w6.heap.size 9 i0 _ 1 16 Try.underlying24 hi hz0 hz1 hz2 rfl (by decide) vj1 (a).length ((a).map .string) rfl HO2.out _ _ 1 _ (([dashes] : List ByteArray).map .string) rfl (reads_new wj1 (.string dashes) 9) (strs_one _) (by unfold maxLen; omega) (by omega) HB2.out.size ?_)
  intro vj2 wj2 h21 h22 h23
  have HB3 := Lib.hid (HB2.out.grown h22 HB2.out.size (fun q hq => (HO2.out.lt q hq).1))
  have HO3 := Lib.hid (show wj2.ownsRow w6.heap.size 9 1 vj2 (a ++ [dashes]).length ((a ++ [dashes]).map .string) by rw [List.length_append, List.map_append]; exact h21)
  have RQ3 := Lib.hid (SV6.out.later HB3.out)
  obtain ⟨Aq, cq, eq_, hq1, hq2, hq3⟩ := id RQ3.out
  injection eq_ with e1_ e2_ e3_
  subst e1_; subst e3_
  clear e2_
  have HQ3 := Lib.hid hq3
  clear h21 h22 h23 HO2 HB2 hq3
  go_wp2_with (at_builtin; refine wpList_append_any _ rfl (.tmp 43) (.tmp 44) _ rfl w6.heap.size 9 i0 _ 1 16 Try.underlying24 hi hz0 hz1 hz2 rfl (by decide) vj2 (a ++ [dashes]).length ((a ++ [dashes]).map .string) rfl HO3.out _ _ (v).length _ ((v).map .string) rfl HQ3.out (strs_one _) (by rw [List.length_append, List.length_singleton]; unfold maxLen; omega) (by rw [List.length_append, List.length_singleton]; omega) HB3.out.size ?_)
  intro vab w7 h31 h32 h33
  have HB4 := Lib.hid (HB3.out.grown h32 HB3.out.size (fun q hq => (HO3.out.lt q hq).1))
  have RAB := Lib.hid (show SRow w7 vab (a ++ dashes :: v) from SRow.of_own (by
    have e : (a ++ dashes :: v).length = (a).length + 1 + (v).length := by rw [List.length_append, List.length_cons]; omega
    have e2 : (a ++ dashes :: v).map Value.string = (a).map .string ++ .string dashes :: (v).map .string := by rw [List.map_append, List.map_cons]
    rw [e, e2]
    exact h31))
  clear h31 h32 h33 HO3 HB3 RQ3 HQ3
  have BE7 := Lib.hid (bstep BE6.out HB4.out)
  have RUA7 := Lib.hid (RUA.out.later HB4.out)
  have RBA7 := Lib.hid (RBA6.out.later HB4.out)
  have SU7 := Lib.hid (SU6.out.later HB4.out)
  have SV7 := Lib.hid (SV6.out.later HB4.out)
  clear BE6 SA6 RBA6 SU6 SV6 HB4 RUA
  go_wp2_with (at_builtin; refine wpList_copyStrs rfl (.tmp 46) _ rfl 9 _ 16 Try.underlying24 string_info rfl _ u rfl SU7.out (by omega) (by omega) ?_)
  intro vj1 wj1 ho1 hr1 hb1
  have HO1 := Lib.hid ho1
  have BA := below_new wj1 (.cells #[.string dashes] 9)
  have HO2 := Lib.hid (own_below ho1 BA)
  have HB2 := Lib.hid (bstep hb1 BA)
  clear ho1 hr1 hb1 BA HO1
  go_wp2_with (at_builtin; refine wpList_append_any _ rfl (.tmp 47) (.tmp 48) _ rfl w7.heap.size 9 i0 _ 1 16 Try.underlying24 hi hz0 hz1 hz2 rfl (by decide) vj1 (u).length ((u).map .string) rfl HO2.out _ _ 1 _ (([dashes] : List ByteArray).map .string) rfl (reads_new wj1 (.string dashes) 9) (strs_one _) (by unfold maxLen; omega) (by omega) HB2.out.size ?_)
  intro vj2 wj2 h21 h22 h23
  have HB3 := Lib.hid (HB2.out.grown h22 HB2.out.size (fun q hq => (HO2.out.lt q hq).1))
  have HO3 := Lib.hid (show wj2.ownsRow w7.heap.size 9 1 vj2 (u ++ [dashes]).length ((u ++ [dashes]).map .string) by rw [List.length_append, List.map_append]; exact h21)
  have RQ3 := Lib.hid (SV7.out.later HB3.out)
  obtain ⟨Aq, cq, eq_, hq1, hq2, hq3⟩ := id RQ3.out
  injection eq_ with e1_ e2_ e3_
  subst e1_; subst e3_
  clear e2_
  have HQ3 := Lib.hid hq3
  clear h21 h22 h23 HO2 HB2 hq3
  go_wp2_with (at_builtin; refine wpList_append_any _ rfl (.tmp 49) (.tmp 50) _ rfl w7.heap.size 9 i0 _ 1 16 Try.underlying24 hi hz0 hz1 hz2 rfl (by decide) vj2 (u ++ [dashes]).length ((u ++ [dashes]).map .string) rfl HO3.out _ _ (v).length _ ((v).map .string) rfl HQ3.out (strs_one _) (by rw [List.length_append, List.length_singleton]; unfold maxLen; omega) (by rw [List.length_append, List.length_singleton]; omega) HB3.out.size ?_)
  intro vbb w8 h31 h32 h33
  have HB4 := Lib.hid (HB3.out.grown h32 HB3.out.size (fun q hq => (HO3.out.lt q hq).1))
  have RUV := Lib.hid (show SRow w8 vbb (u ++ dashes :: v) from SRow.of_own (by
    have e : (u ++ dashes :: v).length = (u).length + 1 + (v).length := by rw [List.length_append, List.length_cons]; omega
    have e2 : (u ++ dashes :: v).map Value.string = (u).map .string ++ .string dashes :: (v).map .string := by rw [List.map_append, List.map_cons]
    rw [e, e2]
    exact h31))
  clear h31 h32 h33 HO3 HB3 RQ3 HQ3
  have BE8 := Lib.hid (bstep BE7.out HB4.out)
  have RUA8 := Lib.hid (RUA7.out.later HB4.out)
  have RBA8 := Lib.hid (RBA7.out.later HB4.out)
  have RAB8 := Lib.hid (RAB.out.later HB4.out)
  clear BE7 RUA7 RBA7 SU7 SV7 HB4 RAB
  have na : dashes ∉ a := fun h => by have := ZA.out _ h; revert this; decide
  have nu : dashes ∉ u := fun h => by have := ZU.out _ h; revert this; decide
  have big : ∀ (x y : List ByteArray), (∀ s ∈ x, s.size = 1) → (∀ s ∈ y, s.size = 1) → ∀ s ∈ x ++ dashes :: y, s.size ≤ 600 := fun x y hx hy s hs => by
    rcases List.mem_append.1 hs with hs | hs
    · rw [hx s hs]; decide
    · rcases List.mem_cons.1 hs with rfl | hs
      · decide
      · rw [hy s hs]; decide
  have M := Lib.hid (merged_any vba vua vab _ _ _ w8 RBA8.out RUA8.out RAB8.out (by rw [List.length_append, List.length_cons]; omega) (by rw [List.length_append, List.length_cons]; omega) (by rw [List.length_append, List.length_cons]; omega) (big _ _ ZA.out ZB.out) (big _ _ ZU.out ZB.out) (big _ _ ZA.out ZV.out))
  rw [mergeR_far a b u v dashes na nu] at M
  clear big na nu RUA8 RBA8 RAB8 ZA ZB ZU ZV
  go_wp2_with fail
  refine M.out.mono ?_
  rintro e w9 ⟨x, rfl, sx, hb9⟩
  have BE9 := Lib.hid (bstep BE8.out hb9)
  have RUV9 := Lib.hid (RUV.out.later hb9)
  have T := Lib.hid (texts_any x vbb _ _ w9 sx RUV9.out)
  rw [decide_eq_true rfl] at T
  clear M sx hb9 BE8 RUV
  go_wp2_with fail
  refine T.out.mono ?_
  rintro e w10 ⟨rfl, hb10⟩
  have BE10 := bstep BE9.out hb10
  clear T hb10
  go_wp2_with fail
  go_ret
  exact ⟨rfl, BE10⟩
end Go.Proofs.Ytpgjjnbepkofdaa
