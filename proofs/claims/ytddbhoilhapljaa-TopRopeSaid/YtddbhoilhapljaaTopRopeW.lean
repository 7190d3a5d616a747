/-
  The walk of TopRope: at every input it returns true, and nothing that was there is changed.
-/
import Derived.Test.YtddbhoilhapljaaTopRopeP
import Derived.Test.YtddbhoilhapljaaRopeR
import Derived.Test.YtddbhoilhapljaaAppM
import Derived.BigQuiet
import Derived.Deep.QuietTactic
namespace Go.Proofs.Ytddbhoilhapljaa
open Go.RowKit
set_option linter.unusedVariables false

set_option maxRecDepth 100000 in
set_option maxHeartbeats 8000000 in
theorem topRope_walk (w : World) (v0 : Value) (xs : List Int) (h0 : Row .i64 w v0 xs) (v1 : Value) (cs : List Chg) (h1 : Chgs w v1 cs) :
    Calls Try.prog 13 #[v0, v1] w fun e w' => e = .returned (.bool true) ∧ Below w.heap.size w w' := by
  have HT := Lib.hid (textOf_any v0 xs 80 w h0 (by omega) (by omega))
  have H1 := Lib.hid h1
  clear h0 h1
  go_enter Try.func13, Try.ntmps13
  go_wp2_with fail
  refine HT.out.mono ?_
  rintro e w' ⟨s, rfl, hs, rfl⟩
  have hs80 : s.size ≤ 80 := text_len _ _ _ hs
  clear hs HT
  have HS := Lib.hid (edits_own v1 cs 8 s.size w H1.out (by omega) (by omega))
  go_wp2_with fail
  refine HS.out.mono ?_
  rintro e w1 ⟨ve, es, rfl, ho1, hv, hl, hb1⟩
  have hok := okr_of_vld es _ hv (by omega)
  have HV := Lib.hid hv
  have HPUT := Lib.hid (vld_put600 es _ hv)
  have HOK := Lib.hid hok
  have hwl : (rn s es).size ≤ 144 := by rw [rn_size es s hok]; have := sized_le es _ hv; omega
  have HB1 := Lib.hid hb1
  obtain ⟨A1, c1, rfl, hc1, hc2⟩ := own_slice ho1
  have HO1 := Lib.hid ho1
  have hO := World.ownsRow_lit (base := w1.heap.size) (e := 66) (size := 6) w1 #[.int .i64 1, .string s, .int .i64 0, .int .i64 0, .int .i64 0, .int .i64 0] 1 (Nat.le_refl _) (by decide) rfl
  have HO := Lib.hid hO
  have HBL := Lib.hid ((Below.refl w1.heap.size w1).alloc (Nat.le_refl _) (.cells #[.int .i64 1, .string s, .int .i64 0, .int .i64 0, .int .i64 0, .int .i64 0] 66))
  clear hok hv hb1 ho1 HS H1 hO
  unfold maxLen at hc2
  go_wp2_with fail
  have hws : w.heap.size ≤ w1.heap.size := HB1.out.size
  go_loopw [7, 8, 9] (fun vo vn i wr => ∃ (k n now : Nat) (os : List Ro), k ≤ es.length ∧ i = .int .i64 k ∧ vn = .int .i64 now ∧ Hid (n = 5 * k + 1) ∧ Hid (TopI s es k os now) ∧ wr.ownsRow w1.heap.size 66 6 vo n (cellsOf roc os) ∧ Below w1.heap.size w1 wr) (fun _ _ i _ => es.length - (intOf i).toNat)
  case atStart => exact ⟨0, 1, 0, [⟨1, s, 0, 0, 0, 0⟩], Nat.zero_le _, rfl, rfl, Lib.hid rfl, Lib.hid (topI_zero s es hs80), HO.out, HBL.out⟩
  case round =>
    obtain ⟨k, n, now, os, hk, rfl, rfl, HN, HI, hown, hb⟩ := hrel
    have hn41 : n ≤ 41 := by have := HN.out; omega
    have hnown : now < n := by have := HN.out; have := HI.out.now_; omega
    by_cases hlt : k < es.length
    · have hR := Reads.of_own HO1.out
      obtain ⟨b, o, rfl, hbb, x0, x1, x2⟩ := EdRow.at_ (hR.below hb) hlt
      have hst := topI_step HI.out hlt hl hs80 HV.out
      rw [← HN.out] at hst
      have HST := Lib.hid hst
      have hvp : es[k].p + es[k].c ≤ 1000 := by
        have h9 := vld_pc es s.size HV.out (by omega) k hlt
        omega
      have HOP : Hid (cellsOf roc (os ++ edOps now n es[k]) = cellsOf roc os ++ [.int .i64 3, .string ⟨#[]⟩, .int .i64 (now : Int), .int .i64 0, .int .i64 (es[k].p : Int), .int .i64 0, .int .i64 4, .string ⟨#[]⟩, .int .i64 (now : Int), .int .i64 0, .int .i64 ((es[k].p : Int) + (es[k].c : Int)), .int .i64 0, .int .i64 1, .string es[k].put, .int .i64 0, .int .i64 0, .int .i64 0, .int .i64 0, .int .i64 2, .string ⟨#[]⟩, .int .i64 (n : Int), .int .i64 ((n : Int) + 2), .int .i64 0, .int .i64 0, .int .i64 2, .string ⟨#[]⟩, .int .i64 ((n : Int) + 3), .int .i64 ((n : Int) + 1), .int .i64 0, .int .i64 0]) := Lib.hid (by rw [cellsOf_append]; rfl)
      have HBB := Lib.hid hb
      have hbs := hb.size
      obtain ⟨A2, c2, rfl, hc3, hc4⟩ := own_slice hown
      have HOW := fun o : Obj => Lib.hid (hown.alloc o)
      have HBW := fun o : Obj => Lib.hid (hb.alloc hbs o)
      clear hR hb hst hown
      generalize es[k] = d at *
      obtain ⟨dp, dc, dput⟩ := d
      simp only at x0 x1 x2 hvp HOP
      go_wp2_with (at_builtin; go_loud (refine wpList_appM rfl (.tmp 43) (.tmp 67) _ rfl w1.heap.size 66 _ 6 56 Try.underlying60 op_info rfl (by decide) (.slice A2 n c2) n _ rfl (HOW (.cells #[.int .i64 (dp : Int), .int .i64 (dc : Int), .string dput] 37)).out 5 [.int .i64 3, .string ⟨#[]⟩, .int .i64 (now : Int), .int .i64 0, .int .i64 (dp : Int), .int .i64 0, .int .i64 4, .string ⟨#[]⟩, .int .i64 (now : Int), .int .i64 0, .int .i64 ((dp : Int) + (dc : Int)), .int .i64 0, .int .i64 1, .string dput, .int .i64 0, .int .i64 0, .int .i64 0, .int .i64 0, .int .i64 2, .string ⟨#[]⟩, .int .i64 (n : Int), .int .i64 ((n : Int) + 2), .int .i64 0, .int .i64 0, .int .i64 2, .string ⟨#[]⟩, .int .i64 ((n : Int) + 3), .int .i64 ((n : Int) + 1), .int .i64 0, .int .i64 0] rfl _ rfl (by simp) rfl (by simp [Value.oneCell']) (by omega) (by omega) (HBW (.cells #[.int .i64 (dp : Int), .int .i64 (dc : Int), .string dput] 37)).out.size ?_; intro v8 w8 ho8 hB8 hg8; have HO8 := Lib.hid ho8; have HB8 := Lib.hid (hB8 _ (Nat.le_refl _) _ (HBW (.cells #[.int .i64 (dp : Int), .int .i64 (dc : Int), .string dput] 37)).out); clear ho8 hB8 hg8))
      go_roundw
      case rel =>
        refine ⟨k + 1, n + 5, 5 * k + 5, os ++ edOps now n ⟨dp, dc, dput⟩, by omega, by go_num, ?_, Lib.hid (by have := HN.out; omega), HST, ?_, HB8.out⟩
        · congr 1; have := HN.out; omega
        · rw [HOP.out]; exact HO8.out
      case measure => simp [intOf]; omega
    · obtain rfl : k = es.length := by omega
      obtain ⟨A2, c2, rfl, hc3, hc4⟩ := own_slice hown
      have hno : n = os.length := by rw [HI.out.len]; exact HN.out
      subst hno
      have hrow := CRow.of_own roc_len hown
      have HVL := Lib.hid HI.out.vld
      have hcnt : (runT [] os).1.length = os.length := by rw [HI.out.cnt, HI.out.len]
      have hisw : (runT [] os).1.getD now [] = (rn s es).data.toList := by rw [HI.out.is_, List.take_length]
      have hsm := runT_small os [] HI.out.vld (by simp)
      have HPL := Lib.hid (fun v w (h : CRow 6 roc w v os) => ropePlay_any v os w h (by omega) HVL.out)
      have HDE := Lib.hid (fun v w (h : CRow 6 roc w v os) => depths_any v os w h (by omega) HVL.out)
      have HME := Lib.hid (fun v w (h : CRow 6 roc w v os) => measure_any v os w h (by omega) HVL.out)
      unfold PlayP at HPL
      unfold DepthsP at HDE
      unfold MeasureP at HME
      generalize hts : (runT [] os).1 = ts at *
      have HAP := Lib.hid (fun w (h : EdRow w (.slice A1 es.length c1) es) => apply_any s _ es w h (by omega) (by omega) HPUT.out HOK.out)
      have HB2 := Lib.hid (bstep HB1.out hb)
      have HOE := Lib.hid (EdRow.of_own (own_below HO1.out hb))
      have HROW := Lib.hid hrow
      have HCNT := Lib.hid hcnt
      have HIS := Lib.hid hisw
      have HSM := Lib.hid hsm
      have hn0 : (0 : Int) ≤ (os.length : Int) := by omega
      clear hown hrow hb hts hcnt hisw hsm HO1 HB1 HI HN
      go_wp2_with (at_builtin; go_loud (refine wpList_copyC roc_len roc_one rfl (.tmp 72) _ rfl 66 _ 56 Try.underlying60 op_info rfl (by decide) _ os rfl HROW.out (by omega) (by omega) ?_; intro v3 w3 ho3 hp3 hb3; have HB3 := Lib.hid (bstep HB2.out hb3); have HP3 := Lib.hid hp3; have HROW3 := Lib.hid (HROW.out.later hb3); have HOE3 := Lib.hid (HOE.out.later hb3); obtain ⟨A3, c3, rfl, hA31, hA32⟩ := own_slice ho3; clear ho3 hp3 hb3))
      refine (HPL.out _ w3 HP3.out).mono ?_
      rintro e w4 ⟨vt, vc, rfl, hvt, hvc, hb4⟩
      have HB4 := Lib.hid (bstep HB3.out hb4)
      have HROW4 := Lib.hid (HROW3.out.later hb4)
      have HOE4 := Lib.hid (HOE3.out.later hb4)
      rw [HCNT.out] at hvt
      obtain ⟨gt, ct, rfl, hgt, hgtl⟩ := hvt.form (by omega)
      obtain ⟨Ac, cc, rfl, hAc1, hAc2⟩ := own_slice hvc
      have htl : now < ts.length := by rw [HCNT.out]; exact hnown
      have ht0 := hvt.cells (g := gt) rfl now (.string (rn s es)) (by
        rw [List.getElem?_map, List.getElem?_eq_getElem htl]
        have : ts[now] = (rn s es).data.toList := by rw [← HIS.out, List.getD_eq_getElem?_getD, List.getElem?_eq_getElem htl]; rfl
        show some (bytesV ts[now]) = _
        rw [this]; rfl)
      rw [add_head] at ht0
      have HT0 := Lib.hid (And.intro hgtl ht0)
      clear hvt hvc hb4 ht0 HPL HROW3 HOE3 HB3 HP3
      go_wp2_with (at_builtin; go_loud (refine wpList_copyC roc_len roc_one rfl (.tmp 79) _ rfl 66 _ 56 Try.underlying60 op_info rfl (by decide) _ os rfl HROW4.out (by omega) (by omega) ?_; intro v5 w5 ho5 hp5 hb5; have HB5 := Lib.hid (bstep HB4.out hb5); have HP5 := Lib.hid hp5; have HROW5 := Lib.hid (HROW4.out.later hb5); have HOE5 := Lib.hid (HOE4.out.later hb5); have HE5 := Lib.hid hb5; obtain ⟨A5, c5, rfl, hA51, hA52⟩ := own_slice ho5; clear ho5 hp5 hb5))
      refine (HDE.out _ w5 HP5.out).mono ?_
      rintro e w6 ⟨vd, os', rfl, hts', hok', hvd, hb6⟩
      have hlo : os'.length = os.length := by rw [← List.length_map (f := otx), hts', HCNT.out]
      rw [hlo] at hvd
      have HB6 := Lib.hid (bstep HB5.out hb6)
      have HROW6 := Lib.hid (HROW5.out.later hb6)
      have HOE6 := Lib.hid (HOE5.out.later hb6)
      have HE6 := Lib.hid (bstep HE5.out hb6)
      obtain ⟨gd, cd, rfl, hgd, hgdl⟩ := hvd.form (by omega)
      have hnl : now < os'.length := by omega
      have hoe : otx os'[now] = (rn s es).data.toList := by
        rw [← HIS.out, ← hts', List.getD_eq_getElem?_getD, List.getElem?_map, List.getElem?_eq_getElem hnl]; rfl
      have h22 := odp_22 os'[now] (hok' _ (List.getElem_mem hnl)) (by rw [hoe]; simp; omega)
      rw [hoe] at h22
      have hd0 := hvd.cells (g := gd) rfl now (.int .i64 (odp os'[now] : Int)) (by rw [List.getElem?_map, List.getElem?_eq_getElem hnl]; rfl)
      rw [add_head] at hd0
      generalize odp os'[now] = dv at *
      have HD0 := Lib.hid (And.intro hgdl hd0)
      have H22 := Lib.hid h22
      clear hvd hb6 hd0 HDE HROW5 HOE5 HB5 HP5 hts' hok' hlo hnl hoe h22 HE5
      go_wp2_with fail
      refine (HME.out _ w6 HROW6.out).mono ?_
      rintro e w7 ⟨vp, vh, rfl, hvp, hvh, hb7⟩
      rw [HCNT.out] at hvp hvh
      have HB7 := Lib.hid (bstep HB6.out hb7)
      have HOE7 := Lib.hid (HOE6.out.later hb7)
      have HE7 := Lib.hid (bstep HE6.out hb7)
      have HF7 := Lib.hid hb7
      obtain ⟨gp, cp, rfl, hgp, hgpl⟩ := hvp.form (by omega)
      obtain ⟨gh, ch, rfl, hgh, hghl⟩ := hvh.form (by omega)
      have hti : ts[now] = (rn s es).data.toList := by rw [← HIS.out, List.getD_eq_getElem?_getD, List.getElem?_eq_getElem htl]; rfl
      have y0 := hvp.cells (g := gp) rfl (now * 3 + 0) _ ((cellsOf_at posC_len _ now htl 0 (by decide)).trans rfl)
      have y1 := hvp.cells (g := gp) rfl (now * 3 + 1) _ ((cellsOf_at posC_len _ now htl 1 (by decide)).trans rfl)
      have y2 := hvp.cells (g := gp) rfl (now * 3 + 2) _ ((cellsOf_at posC_len _ now htl 2 (by decide)).trans rfl)
      have z0 := hvh.cells (g := gh) rfl (now * 2 + 0) _ ((cellsOf_at hashC_len _ now htl 0 (by decide)).trans rfl)
      have z1 := hvh.cells (g := gh) rfl (now * 2 + 1) _ ((cellsOf_at hashC_len _ now htl 1 (by decide)).trans rfl)
      rw [add_head] at y0 y1 y2 z0 z1
      rw [hti] at y0 y1 y2 z0 z1
      have HY := Lib.hid (And.intro y0 (And.intro y1 (And.intro y2 (And.intro z0 z1))))
      clear hvp hvh hb7 y0 y1 y2 z0 z1 HME HROW6 HOE6 HB6 hti
      go_wp2_with fail
      refine (HAP.out w7 HOE7.out).mono ?_
      rintro e w8 ⟨rfl, hb8⟩
      have HB8 := Lib.hid (bstep HB7.out hb8)
      generalize hwt : rn s es = want at *
      have POF := Lib.hid (fun W => posOf_any want W (by omega))
      have HOF := Lib.hid (fun W => polyOf_any want W (by unfold maxLen; omega))
      unfold posv at POF
      obtain ⟨y0, y1, y2, z0, z1⟩ := HY.out
      replace y0 : w8.cell? ⟨gp, now * 3, none⟩ = some (.int .i64 (want.data.toList.length : Int)) := (hb8.cell (p := ⟨gp, now * 3 + 0, none⟩) hgpl).trans y0
      replace y1 : w8.cell? ⟨gp, now * 3 + 1, none⟩ = some (.int .i64 (lnsL want.data.toList : Int)) := (hb8.cell (p := ⟨gp, now * 3 + 1, none⟩) hgpl).trans y1
      replace y2 : w8.cell? ⟨gp, now * 3 + 2, none⟩ = some (.int .i64 (colL want.data.toList : Int)) := (hb8.cell (p := ⟨gp, now * 3 + 2, none⟩) hgpl).trans y2
      replace z0 : w8.cell? ⟨gh, now * 2, none⟩ = some (.int .i64 (hv want.data.toList)) := (hb8.cell (p := ⟨gh, now * 2 + 0, none⟩) hghl).trans z0
      replace z1 : w8.cell? ⟨gh, now * 2 + 1, none⟩ = some (.int .i64 (hs want.data.toList)) := (hb8.cell (p := ⟨gh, now * 2 + 1, none⟩) hghl).trans z1
      have t0 : w8.cell? ⟨gt, now, none⟩ = some (.string want) := ((bstep HE7.out hb8).cell (p := ⟨gt, now, none⟩) HT0.out.1).trans HT0.out.2
      have d0 : w8.cell? ⟨gd, now, none⟩ = some (.int .i64 (dv : Int)) := ((bstep HF7.out hb8).cell (p := ⟨gd, now, none⟩) HD0.out.1).trans HD0.out.2
      have lp : gp < w8.heap.size := Nat.lt_of_lt_of_le hgpl hb8.size
      have lh : gh < w8.heap.size := Nat.lt_of_lt_of_le hghl hb8.size
      have lt_ : gt < w8.heap.size := Nat.lt_of_lt_of_le HT0.out.1 (bstep HE7.out hb8).size
      have ld : gd < w8.heap.size := Nat.lt_of_lt_of_le HD0.out.1 (bstep HF7.out hb8).size
      generalize lnsL want.data.toList = nl at *
      generalize colL want.data.toList = nc at *
      generalize want.data.toList.length = wl at *
      generalize hv want.data.toList = x1 at *
      generalize hs want.data.toList = x2 at *
      have hq : (want.toList == want.toList) = true := bytes_eq rfl
      have hd22 : (dv : Int) ≤ 22 := by have := H22.out.1; omega
      have hwe : (want.toList == (⟨#[]⟩ : ByteArray).toList) = ((dv : Int) == 0) := by
        by_cases hz : dv = 0
        · have : want.data.toList = [] := H22.out.2.1 hz
          rw [hz, bytes_eq (bytes_ext (by rw [this]))]; rfl
        · rw [bytes_ne (fun h => hz (H22.out.2.2 (by rw [h])))]
          symm; rw [beq_eq_false_iff_ne]; omega
      have hn9 : (now : Int) < (os.length : Int) := by omega
      have hn8 : (0 : Int) ≤ (now : Int) := by omega
      clear hb8 HY HAP HOE7 HB7 hwt HE7 HF7 HT0 HD0 H22
      have hwq : (want.toList == (⟨#[]⟩ : ByteArray).toList) = want.toList.isEmpty := by simp
      have HWE : Hid ((want.toList.isEmpty = true ∧ ((dv : Int) == 0) = true) ∨ (want.toList.isEmpty = false ∧ ((dv : Int) == 0) = false)) := Lib.hid (by
        rw [← hwq, hwe]; cases (dv : Int) == 0 <;> simp)
      clear hwq
      clear hwe
      go_wp2_with fail
      refine wp_region_below (by kernel_rfl) (by kernel_rfl) ?_
      intro ι F hne hF hG
      have t0' : ∀ j, (F j).cell? ⟨gt, now, none⟩ = some (.string want) := fun j => ((hF j).cell (p := ⟨gt, now, none⟩) lt_).trans t0
      have d0' : ∀ j, (F j).cell? ⟨gd, now, none⟩ = some (.int .i64 (dv : Int)) := fun j => ((hF j).cell (p := ⟨gd, now, none⟩) ld).trans d0
      have y0' : ∀ j, (F j).cell? ⟨gp, now * 3, none⟩ = some (.int .i64 (wl : Int)) := fun j => ((hF j).cell (p := ⟨gp, now * 3, none⟩) lp).trans y0
      have y1' : ∀ j, (F j).cell? ⟨gp, now * 3 + 1, none⟩ = some (.int .i64 (nl : Int)) := fun j => ((hF j).cell (p := ⟨gp, now * 3 + 1, none⟩) lp).trans y1
      have y2' : ∀ j, (F j).cell? ⟨gp, now * 3 + 2, none⟩ = some (.int .i64 (nc : Int)) := fun j => ((hF j).cell (p := ⟨gp, now * 3 + 2, none⟩) lp).trans y2
      have z0' : ∀ j, (F j).cell? ⟨gh, now * 2, none⟩ = some (.int .i64 x1) := fun j => ((hF j).cell (p := ⟨gh, now * 2, none⟩) lh).trans z0
      have z1' : ∀ j, (F j).cell? ⟨gh, now * 2 + 1, none⟩ = some (.int .i64 x2) := fun j => ((hF j).cell (p := ⟨gh, now * 2 + 1, none⟩) lh).trans z1
      clear t0 d0 y0 y1 y2 z0 z1
      rcases HWE.out with ⟨hw1, hw2⟩ | ⟨hw1, hw2⟩
      all_goals
        clear HWE
        repeat go_big_quiet_step (first | ((with_reducible refine (POF.out _).mono ?_); rintro e w1 ⟨rfl, hb⟩; exact ⟨rfl, hG _ _ hb⟩) | ((with_reducible refine (HOF.out _).mono ?_); rintro e w1 ⟨rfl, hb⟩; exact ⟨rfl, hG _ _ hb⟩))
        refine wpQuiet_nil ?_
        intro _ hw'
        obtain ⟨nr, rfl⟩ := hw'
        have hbF := hF nr
        generalize F nr = wz at *
        clear t0' d0' y0' y1' y2' z0' z1' hF hG
        go_wp2_with fail
        go_ret
        exact ⟨rfl, bstep HB8.out hbF⟩
end Go.Proofs.Ytddbhoilhapljaa
