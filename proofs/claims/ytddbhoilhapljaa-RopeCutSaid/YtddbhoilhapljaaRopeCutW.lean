/-
  The walk of RopeCut: at every input it returns true, and nothing that was there is changed.
-/
import Derived.Test.YtddbhoilhapljaaMakes
import Derived.Test.YtddbhoilhapljaaRopeCutP
import Derived.Test.YtddbhoilhapljaaAppM
import Derived.BigQuiet
import Derived.Deep.QuietTactic
namespace Go.Proofs.Ytddbhoilhapljaa
open Go.RowKit
set_option linter.unusedVariables false

set_option maxRecDepth 100000 in
set_option maxHeartbeats 8000000 in
theorem ropeCut_walk (w : World) (v0 : Value) (ms : List Mke) (h0 : Mkes w v0 ms) (which : Int) (hwh : -9223372036854775808 ≤ which ∧ which ≤ 9223372036854775807) (at_ : Int) (hat : -9223372036854775808 ≤ at_ ∧ at_ ≤ 9223372036854775807) :
    Calls Try.prog 8 #[v0, .int .i64 which, .int .i64 at_] w fun e w' => e = .returned (.bool true) ∧ Below w.heap.size w w' := by
  have HM := Lib.hid (makes_any v0 ms w h0)
  obtain ⟨A, c, rfl, hl, hc, hw⟩ := h0
  clear hw
  go_enter Try.func8, Try.ntmps8
  go_wp2_with fail
  refine HM.out.mono ?_
  rintro e w1 ⟨v1, os, rfl, ho, hv, hol, hb1⟩
  have hrow := CRow.of_own roc_len ho
  have HRP := Lib.hid (roped_any v1 os w1 hrow (by omega) hv)
  obtain ⟨Ao, co, rfl, hao1, hao2⟩ := own_slice ho
  have HROW := Lib.hid hrow
  have HB1 := Lib.hid hb1
  have HV := Lib.hid hv
  have hsm := runT_small os [] hv (by simp)
  have hcnt := runT_cnt os []
  simp only [List.length_nil, Nat.zero_add] at hcnt
  have HCU := Lib.hid (runT_cut os (runT [] os).1 rfl hv hsm (by omega))
  clear ho hrow hb1 hv HM
  go_wp2_with fail
  refine HRP.out.mono ?_
  rintro e w2 ⟨va, rfl, hva, hb2⟩
  have HB2 := Lib.hid (bstep HB1.out hb2)
  have HROW2 := Lib.hid (HROW.out.later hb2)
  have HVA := Lib.hid hva
  generalize hts : (runT [] os).1 = ts at *
  by_cases hz : ts.length = 0
  · rw [hz] at hva
    obtain ⟨Aa, ca, rfl, haa1, haa2⟩ := own_slice hva
    clear hva hb2 HRP hts hcnt
    rw [hz] at *
    go_wp2_with fail
    go_ret
    exact ⟨rfl, HB2.out⟩
  · obtain ⟨ga, ca, rfl, hga, hgl⟩ := hva.form (by omega)
    obtain ⟨a, ha, KA⟩ := picked_lit which (ts.length : Int) hwh (by omega) (by omega)
    have han : a < ts.length := by omega
    have h6 := hsm ts[a] (List.getElem_mem han)
    obtain ⟨k, hk, KK⟩ := picked_lit at_ ((ts[a].length : Int) + 1) hat (by omega) (by omega)
    have hkn : k ≤ ts[a].length := by omega
    obtain ⟨hcv, hct⟩ := HCU.out a k han hkn
    have KA := Lib.hid KA
    have KK := Lib.hid KK
    have HCV := Lib.hid hcv
    have HCT := Lib.hid hct
    have hx := hva.cells (g := ga) rfl a (bytesV ts[a]) (by rw [List.getElem?_map, List.getElem?_eq_getElem han]; rfl)
    rw [add_head] at hx
    unfold bytesV at hx
    have hsz : ((⟨ts[a].toArray⟩ : ByteArray).size : Int) = (ts[a].length : Int) := by simp [ByteArray.size]
    have HSZ := Lib.hid hsz
    have hz' : ((ts.length : Int) == 0) = false := by rw [beq_eq_false_iff_ne]; omega
    have HTL := Lib.hid (show (⟨ts[a].toArray⟩ : ByteArray).data.toList = ts[a] by simp)
    have e0 : Hid ((⟨(ts[a].take k).toArray⟩ : ByteArray) ++ ⟨(ts[a].drop k).toArray⟩ = ⟨ts[a].toArray⟩) := Lib.hid (bytes_ext (by rw [append_data]; simp))
    have e1 : Hid ((⟨(ts[a].take k).toArray⟩ : ByteArray).size = k) := Lib.hid (by show ((ts[a].take k).toArray).size = k; rw [List.size_toArray, List.length_take]; exact Nat.min_eq_left hkn)
    have e2 : Hid ((⟨(ts[a].drop k).toArray⟩ : ByteArray).size = ts[a].length - k) := Lib.hid (by simp [ByteArray.size])
    have HOP : Hid (cellsOf roc (os ++ cutOps a k ts.length) = cellsOf roc os ++ [.int .i64 3, .string ⟨#[]⟩, .int .i64 (a : Int), .int .i64 0, .int .i64 (k : Int), .int .i64 0, .int .i64 4, .string ⟨#[]⟩, .int .i64 (a : Int), .int .i64 0, .int .i64 (k : Int), .int .i64 0, .int .i64 2, .string ⟨#[]⟩, .int .i64 (ts.length : Int), .int .i64 ((ts.length : Int) + 1), .int .i64 0, .int .i64 0]) := Lib.hid (by rw [cellsOf_append]; rfl)
    have HOL : Hid ((os ++ cutOps a k ts.length).length = os.length + 3) := Lib.hid (by rw [List.length_append]; rfl)
    clear hva hb2 HRP HCU hcv hct hsm hts
    generalize ts[a] = ta at *
    generalize hsa : (⟨ta.toArray⟩ : ByteArray) = sa at *
    generalize hs1 : (⟨(ta.take k).toArray⟩ : ByteArray) = s1 at *
    generalize hs2 : (⟨(ta.drop k).toArray⟩ : ByteArray) = s2 at *
    have HS1 := Lib.hid hs1
    have HS2 := Lib.hid hs2
    clear hs1 hs2
    have ha0 : (0 : Int) ≤ (a : Int) := by omega
    have hsl : Hid (sa.size = ta.length) := Lib.hid (by rw [← hsa]; simp [ByteArray.size])
    have HSA := Lib.hid hsa
    have hsi : (sa.size : Int) ≤ 600 := by rw [hsl.out]; omega
    rw [← hsl.out] at KK
    clear hsa HSZ hsz
    go_wp2_with fail
    refine (KA.out _).mono ?_
    rintro e w' ⟨rfl, rfl⟩
    go_wp2_with fail
    refine (KK.out _).mono ?_
    rintro e w' ⟨rfl, rfl⟩
    go_wp2_with ((at_builtin; go_loud (first | (refine wpList_copyC roc_len roc_one rfl (.tmp 42) _ rfl 66 _ 56 Try.underlying60 op_info rfl (by decide) _ os rfl HROW2.out (by omega) (by omega) ?_; intro v3 w3 ho3 hp3 hb3; have HB3 := Lib.hid (bstep HB2.out hb3); have HO3 := Lib.hid ho3; have hs3 := hb3.size; have HVA3 := Lib.hid (own_below HVA.out hb3); have HE3 := Lib.hid hb3; obtain ⟨A3, c3, rfl, hA31, hA32⟩ := own_slice ho3; clear ho3 hp3 hb3) | (refine wpList_appM rfl (.tmp 43) (.tmp 54) _ rfl w2.heap.size 66 _ 6 56 Try.underlying60 op_info rfl (by decide) (.slice A3 os.length c3) os.length _ rfl HO3.out 3 [.int .i64 3, .string ⟨#[]⟩, .int .i64 (a : Int), .int .i64 0, .int .i64 (k : Int), .int .i64 0, .int .i64 4, .string ⟨#[]⟩, .int .i64 (a : Int), .int .i64 0, .int .i64 (k : Int), .int .i64 0, .int .i64 2, .string ⟨#[]⟩, .int .i64 (ts.length : Int), .int .i64 ((ts.length : Int) + 1), .int .i64 0, .int .i64 0] rfl _ rfl (by simp) rfl (by simp [Value.oneCell']) (by omega) (by omega) hs3 ?_; intro v4 w4 ho4 hB4 hg4; have HO4 := Lib.hid ho4; have HB4 := Lib.hid (hB4 _ (Nat.le_refl _) _ HE3.out); obtain ⟨A4, c4, rfl, hA41, hA42⟩ := own_slice ho4; clear ho4 hB4 hg4))))
    have hrow4 : CRow 6 roc w4 (.slice A4 (os.length + 3) c4) (os ++ cutOps a k ts.length) := by
      have h9 := HO4.out
      rw [← HOP.out, ← HOL.out] at h9
      have := CRow.of_own roc_len h9
      rw [HOL.out] at this
      exact this
    refine (roped_any _ _ w4 hrow4 (by rw [HOL.out]; omega) HCV.out).mono ?_
    rintro e w5 ⟨v5, rfl, hv5, hb5⟩
    have hl5 : (ts ++ [ta.take k, ta.drop k, ta]).length = ts.length + 3 := by simp
    rw [HCT.out, hl5] at hv5
    obtain ⟨gu, c5, rfl, hgu, hgul⟩ := hv5.form (by omega)
    have y0 := hv5.cells (g := gu) rfl ts.length (.string s1) (by rw [List.map_append, List.getElem?_append_right (by simp), List.length_map, Nat.sub_self]; exact congrArg (fun b => some (Value.string b)) HS1.out)
    have y1 := hv5.cells (g := gu) rfl (ts.length + 1) (.string s2) (by rw [List.map_append, List.getElem?_append_right (by simp), List.length_map, Nat.add_sub_cancel_left]; exact congrArg (fun b => some (Value.string b)) HS2.out)
    have y2 := hv5.cells (g := gu) rfl (ts.length + 2) (.string sa) (by rw [List.map_append, List.getElem?_append_right (by simp), List.length_map, Nat.add_sub_cancel_left]; exact congrArg (fun b => some (Value.string b)) HSA.out)
    rw [add_head] at y0 y1 y2
    have hE := bstep HB4.out hb5
    have yx := (hE.cell (p := ⟨ga, a, none⟩) hgl).trans hx
    have HB5 := Lib.hid (bstep HB2.out hE)
    have hq1 : (sa.toList == sa.toList) = true := bytes_eq rfl
    have hq2 : ((s1 ++ s2).toList == sa.toList) = true := bytes_eq e0.out
    have hq3 : ((s1.size : Int) == (k : Int)) = true := by rw [e1.out]; simp
    have hnm : ¬ 9223372036854775807 < s1.size + s2.size := by rw [e1.out, e2.out]; omega
    have hql : (((ts.length + 3 : Nat) : Int) == (ts.length : Int) + 3) = true := by simp
    have hn0 : (0 : Int) ≤ (ts.length : Int) := by omega
    have ha1 : (a : Int) < (ts.length : Int) := by omega
    clear hv5 hb5 hE hrow4 hl5 hx
    go_wp2_with fail
    go_quiet (fail)
    go_wp2_with fail
    go_ret
    exact ⟨rfl, below_drewN HB5.out _⟩
end Go.Proofs.Ytddbhoilhapljaa
