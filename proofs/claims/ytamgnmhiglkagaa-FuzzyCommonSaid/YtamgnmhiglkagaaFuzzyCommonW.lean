/-
  The walk of the law FuzzyCommon: whatever its input, it returns true and changes nothing that was there.
-/
import Derived.Test.YtamgnmhiglkagaaFarFrom
namespace Go.Proofs.Ytamgnmhiglkagaa
open Go.RowKit
set_option linter.unusedVariables false

set_option maxRecDepth 100000 in
set_option maxHeartbeats 2000000 in
theorem fuzzyCommon_walk (w : World) (v0 : Value) (l : List Int) (h0 : Row .i64 w v0 l) (v1 : Value) (m : List Int) (h1 : Row .i64 w v1 m) (v2 : Value) (o : List Int) (h2 : Row .i64 w v2 o) (v3 : Value) (p : List Int) (h3 : Row .i64 w v3 p) (z : Int) (hz : -9223372036854775808 ≤ z ∧ z ≤ 9223372036854775807) :
    Calls Try.prog 13 #[v0, v1, v2, v3, .int .i64 z] w fun e w' => e = .returned (.bool true) ∧ Below w.heap.size w w' := by
  go_enter Try.func13, Try.ntmps13
  go_wp2_with fail
  refine (few_any v0 l 8 _ h0 (by omega) (by omega)).mono ?_
  rintro e w1 ⟨x, rfl, ex, hb1⟩
  have sx := few_len _ _ _ ex; clear ex
  go_wp2_with fail
  refine (few_any v1 m 8 _ (h1.later hb1) (by omega) (by omega)).mono ?_
  rintro e w2 ⟨y, rfl, ey, hb2⟩
  have sy := few_len _ _ _ ey; clear ey
  replace hb2 := bstep hb1 hb2
  go_wp2_with fail
  refine (few_any v2 o 5 _ (h2.later hb2) (by omega) (by omega)).mono ?_
  rintro e w3 ⟨hd, rfl, eh, hb3⟩
  have sh := few_len _ _ _ eh; clear eh
  replace hb3 := bstep hb2 hb3
  go_wp2_with fail
  refine (few_any v3 p 5 _ (h3.later hb3) (by omega) (by omega)).mono ?_
  rintro e w4 ⟨tl, rfl, et, hb4⟩
  have st := few_len _ _ _ et; clear et
  replace hb4 := bstep hb3 hb4
  simp only [show Int.toNat 8 = 8 from rfl, show Int.toNat 5 = 5 from rfl] at sx sy sh st
  have c1 := farFrom_any x y
  have c2 := farFrom_any (hd ++ x ++ tl) (hd ++ y ++ tl)
  rw [append_data, append_data, append_data, append_data, Lv.lev_tail, Lv.lev_head] at c2
  have ma := Lv.lev_more 97 x.data.toList y.data.toList
  have mb := Lv.lev_more 98 x.data.toList y.data.toList
  have ca := farFrom_any (x ++ ⟨#[97]⟩) y
  have cb := farFrom_any (x ++ ⟨#[98]⟩) y
  rw [append_data] at ca cb
  have t2 := Lv.lev_le x.data.toList y.data.toList
  have e1 : x.data.toList.length = x.size := by simp
  have e2 : y.data.toList.length = y.size := by simp
  rw [e1, e2] at t2
  clear e1 e2
  have s1 : (hd ++ x ++ tl).size ≤ 20 := by simp only [ByteArray.size_append]; omega
  have s2 : (hd ++ y ++ tl).size ≤ 20 := by simp only [ByteArray.size_append]; omega
  have s3 : (x ++ ⟨#[97]⟩ : ByteArray).size ≤ 20 := by simp only [ByteArray.size_append, size_one]; omega
  have s4 : (x ++ ⟨#[98]⟩ : ByteArray).size ≤ 20 := by simp only [ByteArray.size_append, size_one]; omega
  have ea : ((⟨#[97]⟩ : ByteArray).data.toList) = [97] := rfl
  have eb : ((⟨#[98]⟩ : ByteArray).data.toList) = [98] := rfl
  rw [ea] at ca
  rw [eb] at cb
  clear ea eb
  generalize Lv.lev x.data.toList y.data.toList = n at *
  generalize Lv.lev (x.data.toList ++ [97]) y.data.toList = na at *
  generalize Lv.lev (x.data.toList ++ [98]) y.data.toList = nb at *
  have C1 := Lib.hid c1
  have C2 := Lib.hid c2
  have CA := Lib.hid ca
  have CB := Lib.hid cb
  clear c1 c2 ca cb
  go_wp2_with fail
  refine (C1.out _ (by omega) (by omega)).mono ?_
  rintro e w5 ⟨rfl, hb5⟩
  replace hb5 := bstep hb4 hb5
  rcases Int.emod_two_eq z with hz2 | hz2
  · have HZ := Lib.hid hz2
    clear hz2
    go_wp2_with fail
    refine (picked_any z 2 _ hz (by omega) (by omega)).mono ?_
    rintro e w' ⟨rfl, rfl⟩
    rw [HZ.out]
    go_wp2_with fail
    refine (CA.out _ s3 (by omega)).mono ?_
    rintro e w6 ⟨rfl, hb6⟩
    replace hb6 := bstep (hb5.alloc hb5.size _) hb6
    go_wp2_with fail
    refine (C2.out _ s1 s2).mono ?_
    rintro e w7 ⟨rfl, hb7⟩
    replace hb7 := bstep hb6 hb7
    go_wp2_with fail
    all_goals (go_ret; exact ⟨ret_bool (by first | rfl | (simp; omega)), hb7⟩)
  · have HZ := Lib.hid hz2
    clear hz2
    go_wp2_with fail
    refine (picked_any z 2 _ hz (by omega) (by omega)).mono ?_
    rintro e w' ⟨rfl, rfl⟩
    rw [HZ.out]
    go_wp2_with fail
    refine (CB.out _ s4 (by omega)).mono ?_
    rintro e w6 ⟨rfl, hb6⟩
    replace hb6 := bstep (hb5.alloc hb5.size _) hb6
    go_wp2_with fail
    refine (C2.out _ s1 s2).mono ?_
    rintro e w7 ⟨rfl, hb7⟩
    replace hb7 := bstep hb6 hb7
    go_wp2_with fail
    all_goals (go_ret; exact ⟨ret_bool (by first | rfl | (simp; omega)), hb7⟩)
end Go.Proofs.Ytamgnmhiglkagaa
