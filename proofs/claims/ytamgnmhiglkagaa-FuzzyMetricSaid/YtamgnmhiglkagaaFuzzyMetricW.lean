/-
  The walk of the law FuzzyMetric: whatever the three slices, it returns true and changes nothing that was there.
-/
import Derived.Test.YtamgnmhiglkagaaFew
import Derived.Test.YtamgnmhiglkagaaFar
namespace Go.Proofs.Ytamgnmhiglkagaa
open Go.RowKit
set_option linter.unusedVariables false

theorem few_len (xs : List Int) (n : Nat) (s : ByteArray) (h : s.data.toList = (xs.take n).map ab) : s.size ≤ n := by
  have h2 : s.data.toList.length = s.size := by simp
  rw [← h2, h]; simp; omega

set_option maxHeartbeats 1000000 in
theorem farFrom_any (a b : ByteArray) (w : World) (ha : a.size ≤ 20) (hb : b.size ≤ 20) :
    Calls Try.prog 30 #[.string a, .string b] w fun e w' => e = .returned (.int .i64 (Lv.lev a.data.toList b.data.toList)) ∧ Below w.heap.size w w' := by
  have h1 : Lv.lev [97, 98] [98] = 1 := by decide
  go_enter Try.func30, Try.ntmps30
  go_wp2_with fail
  refine (Far_any _ _ _ ha hb).mono ?_
  rintro e w1 ⟨rfl, hb1⟩
  go_wp2_with fail
  refine (Far_any _ _ _ (by decide) (by decide)).mono ?_
  rintro e w2 ⟨rfl, hb2⟩
  go_wp2_with fail
  go_ret
  exact ⟨rfl, bstep hb1 hb2⟩

set_option maxRecDepth 100000 in
set_option maxHeartbeats 2000000 in
theorem fuzzyMetric_walk (w : World) (v0 : Value) (l : List Int) (h0 : Row .i64 w v0 l) (v1 : Value) (m : List Int) (h1 : Row .i64 w v1 m) (v2 : Value) (o : List Int) (h2 : Row .i64 w v2 o) :
    Calls Try.prog 12 #[v0, v1, v2] w fun e w' => e = .returned (.bool true) ∧ Below w.heap.size w w' := by
  go_enter Try.func12, Try.ntmps12
  go_wp2_with fail
  refine (few_any v0 l 14 _ h0 (by omega) (by omega)).mono ?_
  rintro e w1 ⟨a, rfl, ea, hb1⟩
  have sa := few_len _ _ _ ea; clear ea
  go_wp2_with fail
  refine (few_any v1 m 14 _ (h1.later hb1) (by omega) (by omega)).mono ?_
  rintro e w2 ⟨b, rfl, eb, hb2⟩
  have sb := few_len _ _ _ eb; clear eb
  replace hb2 := bstep hb1 hb2
  go_wp2_with fail
  refine (few_any v2 o 14 _ (h2.later hb2) (by omega) (by omega)).mono ?_
  rintro e w3 ⟨c, rfl, ec, hb3⟩
  have sc := few_len _ _ _ ec; clear ec
  replace hb3 := bstep hb2 hb3
  have d1 := Lv.lev_comm b.data.toList a.data.toList
  have t1 := Lv.lev_tri _ a.data.toList b.data.toList c.data.toList (Nat.le_refl _)
  have t2 := Lv.lev_le a.data.toList b.data.toList
  have t3 := Lv.lev_ge a.data.toList b.data.toList
  have t4 := Lv.lev_le b.data.toList c.data.toList
  have t5 := Lv.lev_le a.data.toList c.data.toList
  have e1 : a.data.toList.length = a.size := by simp
  have e2 : b.data.toList.length = b.size := by simp
  have e3 : c.data.toList.length = c.size := by simp
  rw [e1, e2] at t2 t3
  rw [e2, e3] at t4
  rw [e1, e3] at t5
  clear e1 e2 e3
  have c1 := farFrom_any a b
  have c2 := farFrom_any b a
  have c3 := farFrom_any a c
  have c4 := farFrom_any b c
  rw [d1] at c2
  have H0 := Lib.hid (Lv.lev_zero a.data.toList b.data.toList)
  have H00 := Lib.hid (Lv.lev_self a.data.toList)
  clear d1
  by_cases hab : a = b
  · subst hab
    have hz := H00.out
    rw [hz] at c1 c2 t1
    generalize Lv.lev a.data.toList c.data.toList = y at *
    clear H0 H00 hz t2 t3 t4
    have hq2 : (a.toList == a.toList) = true := by simp
    have C1 := Lib.hid c1
    have C2 := Lib.hid c2
    have C3 := Lib.hid c3
    have C4 := Lib.hid c4
    clear c1 c2 c3 c4
    go_wp2_with fail
    refine (C1.out _ (by omega) (by omega)).mono ?_
    rintro e w4 ⟨rfl, hb4⟩
    replace hb4 := bstep hb3 hb4
    go_wp2_with fail
    refine (C2.out _ (by omega) (by omega)).mono ?_
    rintro e w5 ⟨rfl, hb5⟩
    replace hb5 := bstep hb4 hb5
    go_wp2_with fail
    refine (C3.out _ (by omega) (by omega)).mono ?_
    rintro e w6 ⟨rfl, hb6⟩
    replace hb6 := bstep hb5 hb6
    go_wp2_with fail
    refine (C4.out _ (by omega) (by omega)).mono ?_
    rintro e w7 ⟨rfl, hb7⟩
    replace hb7 := bstep hb6 hb7
    go_wp2_with fail
    all_goals (go_ret; exact ⟨ret_bool (by first | rfl | (simp; omega)), hb7⟩)
  · have hz : Lv.lev a.data.toList b.data.toList ≠ 0 := by
      intro h; exact hab (ByteArray.ext (Array.toList_inj.1 (H0.out h)))
    generalize Lv.lev a.data.toList b.data.toList = x at *
    generalize Lv.lev a.data.toList c.data.toList = y at *
    generalize Lv.lev b.data.toList c.data.toList = z at *
    have hq1 : ((x : Int) == 0) = false := by rw [beq_eq_false_iff_ne]; omega
    have hq2 : (a.toList == b.toList) = false := by exact bytes_ne hab
    clear H0 H00 hz hab
    have C1 := Lib.hid c1
    have C2 := Lib.hid c2
    have C3 := Lib.hid c3
    have C4 := Lib.hid c4
    clear c1 c2 c3 c4
    go_wp2_with fail
    refine (C1.out _ (by omega) (by omega)).mono ?_
    rintro e w4 ⟨rfl, hb4⟩
    replace hb4 := bstep hb3 hb4
    go_wp2_with fail
    refine (C2.out _ (by omega) (by omega)).mono ?_
    rintro e w5 ⟨rfl, hb5⟩
    replace hb5 := bstep hb4 hb5
    go_wp2_with fail
    refine (C3.out _ (by omega) (by omega)).mono ?_
    rintro e w6 ⟨rfl, hb6⟩
    replace hb6 := bstep hb5 hb6
    go_wp2_with fail
    refine (C4.out _ (by omega) (by omega)).mono ?_
    rintro e w7 ⟨rfl, hb7⟩
    replace hb7 := bstep hb6 hb7
    go_wp2_with fail
    all_goals (go_ret; exact ⟨ret_bool (by first | rfl | (simp; omega)), hb7⟩)
end Go.Proofs.Ytamgnmhiglkagaa
