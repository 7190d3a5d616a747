/-
  The walk of the law TopHistory: whatever its input, it returns true and changes nothing that was there.
-/
import Derived.Test.YtegobmlbldabbaaTopHistP
namespace Go.Proofs.Ytegobmlbldabbaa
open Go.RowKit
set_option linter.unusedVariables false

set_option maxRecDepth 100000 in
set_option maxHeartbeats 8000000 in
theorem topHistory_walk (w : World) (v0 : Value) (xs : List Int) (h0 : Row .i64 w v0 xs) (v1 : Value) (cs : List Chg) (h1 : Chgs w v1 cs) :
    Calls Try.prog 10 #[v0, v1] w fun e w' => e = .returned (.bool true) ∧ Below w.heap.size w w' := by
  have HT := Lib.hid (textOf_any v0 xs 60 w h0 (by omega) (by omega))
  have H1 := Lib.hid h1
  clear h0 h1
  go_enter Try.func10, Try.ntmps10
  go_wp2_with fail
  refine HT.out.mono ?_
  rintro e w' ⟨s, rfl, hs, rfl⟩
  have hs60 : s.size ≤ 60 := text_len _ _ _ hs
  clear hs HT
  have HS := Lib.hid (edits_own v1 cs 10 s.size w H1.out (by omega) (by omega))
  go_wp2_with fail
  refine HS.out.mono ?_
  rintro e w1 ⟨ve, es, rfl, ho1, hv, hl, hb1⟩
  have ho := okr_of_vld es _ hv (by omega)
  have HOK := Lib.hid ho
  have HPUT := Lib.hid (vld_put600 es _ hv)
  have HBK := Lib.hid (back_rn es s (by omega) ho)
  have HT6 := Lib.hid (show (rn s es).size ≤ 600 by rw [rn_size es s ho]; exact sized_600 es _ (by omega) ho)
  have HBP := Lib.hid (show ∀ e ∈ (bk s es).reverse, e.put.size ≤ 600 from fun e h => bk_put es s (by omega) ho e (by simpa using h))
  have HBL := Lib.hid (show (bk s es).reverse.length = es.length by rw [List.length_reverse, bk_len])
  have HSM := Lib.hid (moreD_sm es s.size s.size (by omega) ho hv)
  have HTX := Lib.hid (th_texts s es (by omega) ho)
  have HB1 := Lib.hid hb1
  obtain ⟨A1, c1, rfl, hc1, hc2⟩ := own_slice ho1
  have HO1 := Lib.hid ho1
  clear ho hv hb1 ho1 HS H1
  unfold maxLen at hc2
  go_wp2_with fail
  have hws : w.heap.size ≤ w1.heap.size := HB1.out.size
  go_loopw [7, 8] (fun o i wr => ∃ k : Nat, k ≤ es.length ∧ i = .int .i64 k ∧ wr.ownsRow w1.heap.size 36 4 o k (cellsOf ddc ((es.map .do_).take k)) ∧ Below w1.heap.size w1 wr) (fun _ i _ => es.length - (intOf i).toNat)
  case atStart => exact ⟨0, Nat.zero_le _, rfl, World.ownsRow_nil _ _ _ _, Below.refl _ _⟩
  case round =>
    obtain ⟨k, hk, rfl, hown, hb⟩ := hrel
    by_cases hlt : k < es.length
    · have hR := Reads.of_own HO1.out
      obtain ⟨b, o, rfl, hbb, x0, x1, x2⟩ := EdRow.at_ (hR.below hb) hlt
      have HTK : Hid (cellsOf ddc ((es.map .do_).take (k + 1)) = cellsOf ddc ((es.map .do_).take k) ++ ddc (.do_ es[k])) := Lib.hid (by
        rw [List.take_succ_eq_append_getElem (by rw [List.length_map]; exact hlt), cellsOf_append, List.getElem_map]; rfl)
      have HBB := Lib.hid hb
      have hbs := hb.size
      obtain ⟨A2, c2, rfl, hc3, hc4⟩ := own_slice hown
      clear hR hb
      generalize es[k] = d at *
      go_wp2_with (at_builtin; refine wpList_appN rfl (.tmp 39) (.tmp 45) _ rfl w1.heap.size 36 _ 4 40 Try.underlying25 deed_info rfl (by decide) _ k _ rfl hown (ddc (.do_ d)) rfl wr.heap.size rfl rfl rfl (ddc_one _) (by omega) (by omega) hbs ?_)
      intro v8 w8 ho8 hB8 hg8
      have HB8 := Lib.hid (hB8 _ (Nat.le_refl _) _ HBB.out)
      have HO8 : Hid (w8.ownsRow w1.heap.size 36 4 v8 (k + 1) (cellsOf ddc ((es.map .do_).take (k + 1)))) := Lib.hid (by rw [HTK.out]; exact ho8)
      clear ho8 hB8 hg8 hown HTK x0 x1 x2
      go_wp2_with fail
      go_roundw
      case rel => exact ⟨k + 1, by omega, by go_num, HO8.out, HB8.out⟩
      case measure => simp [intOf]; omega
    · obtain rfl : k = es.length := by omega
      have htk : (es.map Dd.do_).take es.length = es.map Dd.do_ := List.take_of_length_le (by simp)
      rw [htk] at hown
      have HB2 := Lib.hid (bstep HB1.out hb)
      have HO2 := Lib.hid hown
      have HOE := Lib.hid (own_below HO1.out hb)
      have HRE := Lib.hid (Reads.of_own (own_below HO1.out hb))
      obtain ⟨A2, c2, rfl, hc3, hc4⟩ := own_slice hown
      clear hown hb htk HO1
      obtain ⟨i0, hi, hz0, hz1, hz2⟩ := info_parts edit_info
      go_wp2_with (at_builtin; refine wpList_copy rfl (.tmp 49) _ rfl 34 _ 3 32 Try.underlying46 edit_info rfl (by decide) _ es.length _ (edCells es) rfl HRE.out (edCells_one es) (by omega) (by omega) ?_)
      intro v3 w3 ho3 hb3
      have HI := Lib.hid (invert_any s v3 es w3 (EdRow.of_own ho3) (by omega) (by omega) HPUT.out HOK.out)
      have HB3 := Lib.hid (bstep HB2.out hb3)
      have HO3 := Lib.hid (own_below HO2.out hb3)
      have HOE3 := Lib.hid (own_below HOE.out hb3)
      clear ho3 hb3 HB2 HO2 HOE HRE HB1
      go_wp2_with fail
      refine HI.out.mono ?_
      rintro e w4 ⟨v4, rfl, he4, hb4⟩
      have HA := Lib.hid (apply_any s _ es w4 (EdRow.of_own (own_below HOE3.out hb4)) (by omega) (by omega) HPUT.out HOK.out)
      have HB4 := Lib.hid (bstep HB3.out hb4)
      have HO4 := Lib.hid (own_below HO3.out hb4)
      have HE4 := Lib.hid he4
      clear he4 hb4 HI HB3 HO3 HOE3
      go_wp2_with fail
      refine HA.out.mono ?_
      rintro e w5 ⟨rfl, hb5⟩
      have HA2 := Lib.hid (apply_any (rn s es) v4 (bk s es).reverse w5 (HE4.out.later hb5) HT6.out (by rw [HBL.out]; omega) HBP.out HBK.out.1)
      rw [HBK.out.2] at HA2
      have HB5 := Lib.hid (bstep HB4.out hb5)
      have HO5 := Lib.hid (own_below HO4.out hb5)
      clear HA hb5 HB4 HO4 HE4
      go_wp2_with fail
      refine HA2.out.mono ?_
      rintro e w6 ⟨rfl, hb6⟩
      have HB6 := Lib.hid (bstep HB5.out hb6)
      have HO6 := Lib.hid (own_below HO5.out hb6)
      have HR6 := Lib.hid (Reads.of_own HO6.out)
      have hws6 : w.heap.size ≤ w6.heap.size := HB6.out.size
      clear HA2 hb6 HB5 HO5
      go_wp2_with (at_builtin; refine wpList_copy rfl (.tmp 66) _ rfl 36 _ 4 40 Try.underlying25 deed_info rfl (by decide) _ es.length _ (cellsOf ddc (es.map .do_)) rfl HR6.out (cellsOf_oneCell ddc_one _) (by omega) (by omega) ?_)
      intro v7 w7 ho7 hb7
      have HB7 := Lib.hid (bstep HB6.out hb7)
      obtain ⟨A7, c7, rfl, hc5, hc6⟩ := own_slice ho7
      have hw67 := hb7.size
      clear hb7 HB6 HO6 HR6
      go_wp2_with (at_builtin; refine wpList_appN rfl (.tmp 67) (.tmp 69) _ rfl w6.heap.size 36 _ 4 40 Try.underlying25 deed_info rfl (by decide) _ es.length _ rfl ho7 (ddc .undo) rfl w7.heap.size rfl rfl rfl (ddc_one _) (by omega) (by omega) hw67 ?_)
      intro v8 w8 ho8 hB8 hg8
      have HB8 := Lib.hid (hB8 _ hws6 _ HB7.out)
      have ho8' : w8.ownsRow w6.heap.size 36 4 v8 (moreD es).length (cellsOf ddc (moreD es)) := by
        rw [moreD_len, moreD, cellsOf_append]; exact ho8
      have hml := moreD_len es
      have HTX' : Hid ((play (h0s s) (moreD es)).2.1.length = es.length + 1 ∧ (0 < es.length → (play (h0s s) (moreD es)).2.1[es.length - 1]? = some (rn s es) ∧ (play (h0s s) (moreD es)).2.1[es.length]? = some s)) := HTX
      clear ho8 hB8 hg8 ho7 HB7 HTX
      generalize moreD es = md at *
      have HML := Lib.hid hml
      have hm80 : md.length ≤ 80 := by omega
      have hmE : md.length = es.length + 1 := hml
      have HME := Lib.hid hmE
      clear hml hmE
      obtain ⟨A8, c8, rfl, hc7, hc8⟩ := own_slice ho8'
      have HO8 := Lib.hid ho8'
      have HR8 := Lib.hid (Reads.of_own ho8')
      have HDK := Lib.hid (fun d hd => dOk_of_sm d 600 (by decide) (HSM.out d hd))
      have HOKF := Lib.hid (okf_rdOf s md 600 (Nat.le_refl _) (by omega) hm80 HSM.out)
      clear ho8'
      go_wp2_with (at_builtin; refine wpList_copy rfl (.tmp 73) _ rfl 36 _ 4 40 Try.underlying25 deed_info rfl (by decide) _ md.length _ (cellsOf ddc md) rfl HR8.out (cellsOf_oneCell ddc_one _) (by omega) (by omega) ?_)
      intro v9 w9 ho9 hb9
      have HP := Lib.hid (played_any s v9 md w9 (by omega) hm80 HDK.out (DRow.of_own ho9))
      have HB9 := Lib.hid (bstep HB8.out hb9)
      have HO9 := Lib.hid (own_below HO8.out hb9)
      clear ho9 hb9 HB8 HO8 HR8
      go_wp2_with fail
      refine HP.out.mono ?_
      rintro e w10 ⟨vt, vc, rfl, ht, hc, hb10⟩
      have HB10 := Lib.hid (bstep HB9.out hb10)
      have HO10 := Lib.hid (own_below HO9.out hb10)
      have HR10 := Lib.hid (Reads.of_own HO10.out)
      obtain ⟨At, ct, rfl, hct1, hct2⟩ := own_slice ht
      have HTT := Lib.hid ht
      clear ht hc hb10 HB9 HO9 HP
      go_wp2_with (at_builtin; refine wpList_copy rfl (.tmp 81) _ rfl 36 _ 4 40 Try.underlying25 deed_info rfl (by decide) _ md.length _ (cellsOf ddc md) rfl HR10.out (cellsOf_oneCell ddc_one _) (by omega) (by omega) ?_)
      intro v11 w11 ho11 hb11
      obtain ⟨A11, c11, rfl, hc11, hc12⟩ := own_slice ho11
      have hr11 := Reads.of_own ho11
      rw [← cells_rdOf] at hr11
      have hlm : (md.map rdOf).length = md.length := List.length_map _
      rw [← hlm] at hr11 hc11
      have HSV : Hid (Calls Try.prog 16 #[.string s, .slice A11 md.length c11] w11 (SavePost s (md.map rdOf) w11)) := Lib.hid (by
        have := save_any s A11 c11 (md.map rdOf) w11 hr11 hc11 hc12 HOKF.out
        rwa [hlm] at this)
      have HB11 := Lib.hid (bstep HB10.out hb11)
      have HT11 := Lib.hid (own_below HTT.out hb11)
      clear ho11 hb11 hr11 HB10 HO10 HR10 HTT hlm
      go_wp2_with fail
      refine HSV.out.mono ?_
      rintro e w12 ⟨v12, rfl, ho12, hb12⟩
      have HX := Lib.hid (Load_own v12 _ _ w12 ho12 (by
        have h1 := enc_len s (md.map rdOf) HOKF.out
        unfold enc; rw [List.length_append]; simp only [sum4, List.length_cons, List.length_nil]; omega))
      have HLE := Lib.hid (load_enc s (md.map rdOf) HOKF.out)
      obtain ⟨A12, c12, rfl, hc13, hc14⟩ := own_slice ho12
      have HB12 := Lib.hid (bstep HB11.out hb12)
      have HT12 := Lib.hid (own_below HT11.out hb12)
      clear ho12 hb12 HSV HB11 HT11
      go_wp2_with fail
      refine HX.out.mono ?_
      rintro e w13 ⟨v13, rfl, ho13, hb13⟩
      rw [HLE.out] at ho13 ⊢
      simp only at ho13
      rw [cells_rdOf, List.length_map] at ho13
      have HB13 := Lib.hid (bstep HB12.out hb13)
      have HT13 := Lib.hid (own_below HT12.out hb13)
      have HP2 := Lib.hid (played_any s v13 md w13 (by omega) hm80 HDK.out (DRow.of_own ho13))
      clear ho13 hb13 HX HB12 HT12 HLE
      go_wp2_with fail
      refine HP2.out.mono ?_
      rintro e w14 ⟨vu, vc2, rfl, hu, hc, hb14⟩
      have HB14 := Lib.hid (bstep HB13.out hb14)
      have hT14 := own_below HT13.out hb14
      obtain ⟨hx1, hx2⟩ := HTX'.out
      obtain ⟨Au, cu, rfl, hcu1, hcu2⟩ := own_slice hu
      generalize (play (h0s s) md).2.1 = T at *
      have hTl : T.length = md.length := by rw [hx1, HME.out]
      have hsT := hT14
      rw [← hTl] at hsT hu
      have HST : Hid (Calls Try.prog 33 #[.slice At md.length ct, .slice Au md.length cu] w14 fun e w' => e = .returned (.bool (decide (T = T))) ∧ Below w14.heap.size w14 w') := Lib.hid (by
        have := topTexts_any _ _ T T w14 (SRow.of_own hsT) (SRow.of_own hu)
        rwa [hTl] at this)
      have HX2 := Lib.hid hx2
      have HT14 := Lib.hid hT14
      have HTL := Lib.hid hTl
      clear hu hc hb14 HP2 HB13 HT13 hx1 hx2 hT14 hsT hTl HTX'
      have hmi : (md.length : Int) = (es.length : Int) + 1 := by have := HME.out; omega
      by_cases hz : 0 < es.length
      · obtain ⟨hx1, hx2⟩ := HX2.out hz
        obtain ⟨g, cap, hv, hg, hgl⟩ := HT14.out.form (by omega)
        injection hv with e1 _ e3
        subst e1
        subst e3
        have x1 : w14.cell? ⟨g, es.length - 1, none⟩ = some (.string (rn s es)) := by
          have := HT14.out.cells (g := g) rfl (es.length - 1) _ (by rw [List.getElem?_map, hx1]; rfl)
          rwa [add_head] at this
        have x2 : w14.cell? ⟨g, es.length, none⟩ = some (.string s) := by
          have := HT14.out.cells (g := g) rfl es.length _ (by rw [List.getElem?_map, hx2]; rfl)
          rwa [add_head] at this
        have hq1 : ((rn s es).toList == (rn s es).toList) = true := bytes_eq rfl
        have hq2 : (s.toList == s.toList) = true := bytes_eq rfl
        clear hx1 hx2
        generalize rn s es = t at *
        go_wp2_with fail
        refine HST.out.mono ?_
        rintro e w15 ⟨rfl, hb15⟩
        have hdt : decide (T = T) = true := by simp
        try rw [hdt]
        try simp only [decide_true]
        have HB15 := Lib.hid (bstep HB14.out hb15)
        clear hb15 hdt
        go_wp2_with fail
        go_ret
        exact ⟨rfl, HB15.out⟩
      · have hz0 : es.length = 0 := by omega
        have hq2 : (s.toList == s.toList) = true := bytes_eq rfl
        go_wp2_with fail
        refine HST.out.mono ?_
        rintro e w15 ⟨rfl, hb15⟩
        have hdt : decide (T = T) = true := by simp
        try rw [hdt]
        try simp only [decide_true]
        have HB15 := Lib.hid (bstep HB14.out hb15)
        clear hb15 hdt
        go_wp2_with fail
        go_ret
        exact ⟨rfl, HB15.out⟩
end Go.Proofs.Ytegobmlbldabbaa
