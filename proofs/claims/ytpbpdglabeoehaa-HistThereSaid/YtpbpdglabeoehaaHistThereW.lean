/-
  The walk of the law HistThere: whatever its input, it returns true and changes nothing that was there.
-/
import Derived.Test.YtpbpdglabeoehaaHistBeginW
import Derived.Deep.DeepCutAuto
namespace Go.Proofs.Ytpbpdglabeoehaa
open Go.RowKit
set_option linter.unusedVariables false

def thereD (k : Nat) : List Dd := List.replicate k .undo ++ List.replicate k .redo
theorem there_all (s : ByteArray) (ds : List Dd) (k : Nat) (hs : s.size ≤ 600) (hk : k ≤ (after (h0s s) ds).undo.length) :
    (after (h0s s) (ds ++ thereD k)).text = (after (h0s s) ds).text ∧ (after (h0s s) (ds ++ thereD k)).undo.length = (after (h0s s) ds).undo.length ∧ (after (h0s s) (ds ++ thereD k)).redo.length = (after (h0s s) ds).redo.length ∧
    (∀ (i : Nat) (hi : i < (play (h0s s) (ds ++ thereD k)).2.2.length), ds.length ≤ i → (play (h0s s) (ds ++ thereD k)).2.2[i] = 0) := by
  obtain ⟨b', hg⟩ := after_any ds 0 s (h0s s) (Good.new s hs)
  obtain ⟨h1, h2⟩ := there k _ _ _ hg hk
  refine ⟨?_, ?_, ?_, ?_⟩
  · rw [after_append, thereD, h1]
  · rw [after_append, thereD, h1]
  · rw [after_append, thereD, h1]
  · intro i hi hd
    have e : (play (h0s s) (ds ++ thereD k)).2.2 = (play (h0s s) ds).2.2 ++ (play (after (h0s s) ds) (thereD k)).2.2 := by rw [play_append]
    simp only [e] at hi ⊢
    have hl := (play_len ds (h0s s)).2
    rw [List.getElem_append_right (by omega)]
    exact h2 _ (List.getElem_mem _)
set_option maxRecDepth 100000 in
set_option maxHeartbeats 4000000 in
theorem histThere_walk (w : World) (v0 : Value) (l : List Int) (h0 : Row .i64 w v0 l) (v1 : Value) (ts : List Trn) (h1 : Turns w v1 ts) (n : Int) (hn : -9223372036854775808 ≤ n ∧ n ≤ 9223372036854775807) :
    Calls Try.prog 9 #[v0, v1, .int .i64 n] w fun e w' => e = .returned (.bool true) ∧ Below w.heap.size w w' := by
  obtain ⟨AT, cT, hv1, hT1, hT2, hT3⟩ := h1
  have h1 : Turns w v1 ts := ⟨AT, cT, hv1, hT1, hT2, hT3⟩
  subst hv1
  clear hT1 hT2 hT3
  go_enter Try.func9, Try.ntmps9
  go_wp2_with fail
  refine (textOf_any v0 l 40 _ h0 (by omega) (by omega)).mono ?_
  rintro e w1 ⟨s, rfl, es0, rfl⟩
  have ss := text_len _ _ _ es0; clear es0
  simp only [show Int.toNat 40 = 40 from rfl] at ss
  go_wp2_with fail
  refine (deeds_at _ _ ts 40 s.size rfl _ h1 (by omega) (by omega)).mono ?_
  rintro e w1 ⟨vd, ds, rfl, hod, hdl, hdo, hb1⟩
  have hdr := DRow.of_own hod
  obtain ⟨Ad, cd, rfl, hcd1, hcd2⟩ := own_slice hod
  have HH := Lib.hid (histed_any s _ ds w1 (by omega) (by omega) hdo hdr)
  have HDO := Lib.hid hdo
  have HDR := Lib.hid hdr
  have HB1 := Lib.hid hb1
  have hTL := fun (m : Nat) (hm : ds.length = m + 1) => play_last ds (h0s s) m hm
  have HTL := Lib.hid hTL
  have HTN : Hid (ds.length = 0 → (after (h0s s) ds).text = s) := by
    refine Lib.hid fun h => ?_
    have : ds = [] := List.length_eq_zero_iff.1 h
    subst this; rfl
  obtain ⟨b', hgg⟩ := after_any ds 0 s (h0s s) (Good.new s (by omega))
  have hfew := hgg.few
  have HTH := Lib.hid (fun k hk => there_all s ds k (by omega) hk)
  clear hdo h0 h1 hod hdr hb1 hTL hgg
  have hCO := fun W (v : Value) (hW : DRow W v ds) => counts_any s v ds W (by omega) (by omega) HDO.out hW
  have HCO := Lib.hid hCO
  clear hCO
  go_wp2_with fail
  refine HH.out.mono ?_
  rintro e w2 ⟨vt, vc, rfl, hot, hoc, hb2⟩
  obtain ⟨At, ct, rfl, hct1, hct2⟩ := own_slice hot
  obtain ⟨Ac, cc, rfl, hcc1, hcc2⟩ := own_slice hoc
  have HDR2 := Lib.hid (HDR.out.later hb2)
  have HB2 := Lib.hid (bstep HB1.out hb2)
  have HOT := Lib.hid hot
  clear hot hoc hb2 HB1 HDR HH
  generalize hTX : (after (h0s s) ds).text = tx at *
  have HTX := Lib.hid hTX
  clear hTX
  go_upto_if 45 with fail
  go_cut [12] (fun s12 wc => s12 = .string tx ∧ wc = w2)
  case first =>
    by_cases hp : ds.length = 0
    · have e := HTN.out hp
      have hpb : decide ((0 : Int) < (ds.length : Int)) = false := by rw [hp]; rfl
      go_wp2_with fail
      go_meet
      case rel => exact ⟨by rw [e], rfl⟩
    · obtain ⟨m, hm⟩ : ∃ m, ds.length = m + 1 := ⟨ds.length - 1, by omega⟩
      have hl2 := HTL.out m hm
      have ho2 := HOT.out
      obtain ⟨g, cap2, hv2, hg, hgl⟩ := ho2.form (by omega)
      injection hv2 with e1 e2 e3
      subst e1 e3
      have q0 : w2.cell? ⟨g, m, none⟩ = some (.string tx) := by
        have hz := ho2.cellAt m (by omega)
        rw [List.getElem?_map, hl2] at hz; simpa using hz
      have hpb : decide ((0 : Int) < (ds.length : Int)) = true := by rw [decide_eq_true_eq]; omega
      have hix : (ds.length : Int) - 1 = (m : Int) := by omega
      have hml : m < ds.length := by omega
      clear ho2 hl2 hm
      go_wp2_with fail
      go_meet
      case rel => exact ⟨rfl, rfl⟩
  case rest =>
    obtain ⟨rfl, rfl⟩ := hcut
    have HRD : Hid (Reads wc wc.heap.size 4 Ad ds.length (cellsOf ddc ds)) := by
      obtain ⟨A9, c9, e9, _, _, h9⟩ := HDR2.out
      injection e9 with e9
      rw [e9]; exact Lib.hid h9
    generalize hU : (after (h0s s) ds).undo.length = U at *
    generalize hV : (after (h0s s) ds).redo.length = V at *
    clear HOT HDR2 HTL HTN
    go_wp2_with (at_builtin; refine wpList_copy rfl (.tmp 54) _ rfl 41 _ 4 40 Try.underlying31 deed_info rfl (by decide) _ ds.length _ (cellsOf ddc ds) rfl HRD.out (cellsOf_oneCell ddc_one _) (by omega) (by omega) ?_)
    intro v3 w3 ho3 hb3
    have hC3 := Lib.hid (HCO.out w3 v3 (DRow.of_own ho3))
    obtain ⟨A3, c3, rfl, hc3, hc4⟩ := own_slice ho3
    have HB3 := Lib.hid (bstep HB2.out hb3)
    have HRD3 := Lib.hid ((HRD.out.below hb3).more hb3.size)
    clear ho3 hb3 hU hV
    go_wp2_with fail
    refine hC3.out.mono ?_
    rintro e w4 ⟨rfl, hb4⟩
    have HB4 := Lib.hid (bstep HB3.out hb4)
    have HRD4 := Lib.hid ((HRD3.out.below hb4).more hb4.size)
    clear hb4
    have hU20 : decide ((20 : Int) < (U : Int)) = false := by simp; omega
    obtain ⟨k, hke⟩ : ∃ k : Nat, n % ((U : Int) + 1) = (k : Int) := ⟨(n % ((U : Int) + 1)).toNat, by have := Int.emod_nonneg n (show (U : Int) + 1 ≠ 0 by omega); omega⟩
    have hkU : k ≤ U := by have := Int.emod_lt_of_pos n (show (0 : Int) < (U : Int) + 1 by omega); omega
    have HPK := Lib.hid (picked_any n ((U : Int) + 1) w4 hn (by omega) (by omega))
    rw [hke] at HPK
    clear hke hn
    go_wp2_with fail
    refine HPK.out.mono ?_
    rintro e w' ⟨rfl, rfl⟩
    have hTH := HTH.out k hkU
    have HA := Lib.hid hTH
    clear hTH HTH HPK
    go_wp2_with (at_builtin; refine wpList_copy rfl (.tmp 78) _ rfl 41 _ 4 40 Try.underlying31 deed_info rfl (by decide) _ ds.length _ (cellsOf ddc ds) rfl HRD4.out (cellsOf_oneCell ddc_one _) (by omega) (by omega) ?_)
    intro v5 w5 ho5 hb5
    obtain ⟨A5, c5, rfl, hc5, hc6⟩ := own_slice ho5
    have hb6 := bstep HB4.out hb5
    replace ho5 := own_mono ho5 HB4.out.size
    clear hb5
    go_wp2_with fail
    go_loopw [17, 18] (fun f i wr => ∃ j : Nat, j ≤ k ∧ i = .int .i64 j ∧ wr.ownsRow w.heap.size 41 4 f (ds.length + j) (cellsOf ddc (ds ++ List.replicate j .undo)) ∧ Below w.heap.size w wr) (fun _ i _ => k - (intOf i).toNat)
    case atStart => exact ⟨0, Nat.zero_le _, rfl, by simpa using ho5, hb6⟩
    case round =>
      clear ho5 hb6
      obtain ⟨j, hj, rfl, hof, hb⟩ := hrel
      obtain ⟨A7, c7, rfl, hc7, hc8⟩ := own_slice hof
      by_cases hlt : j < k
      · go_wp2_with (at_builtin; refine wpList_appN rfl (.tmp 85) (.tmp 87) _ rfl w.heap.size 41 _ 4 40 Try.underlying31 deed_info rfl (by decide) _ _ _ rfl hof (ddc .undo) rfl _ rfl rfl rfl (ddc_one _) (by omega) (by omega) hb.size ?_)
        intro v8 w8 hof8 hB8 hg8
        have hb8 := hB8 _ (Nat.le_refl _) _ hb
        obtain ⟨A9, c9, rfl, hc9, hc10⟩ := own_slice hof8
        have HOF := Lib.hid hof8
        have HB8 := Lib.hid hb8
        clear hof8 hB8 hg8 hb8 hof hb
        go_wp2_with fail
        go_roundw
        case rel =>
          refine ⟨j + 1, by omega, by go_num, ?_, HB8.out⟩
          rw [List.replicate_succ', ← List.append_assoc, cellsOf_snoc]; exact HOF.out
        case measure => simp [intOf]; omega
      · obtain rfl : j = k := by omega
        go_wp2_with fail
        go_loopw [17, 19] (fun f i wr => ∃ q : Nat, q ≤ j ∧ i = .int .i64 q ∧ wr.ownsRow w.heap.size 41 4 f (ds.length + j + q) (cellsOf ddc (ds ++ (List.replicate j .undo ++ List.replicate q .redo))) ∧ Below w.heap.size w wr) (fun _ i _ => j - (intOf i).toNat)
        case atStart => exact ⟨0, Nat.zero_le _, rfl, by simpa using hof, hb⟩
        case round =>
          clear hof hb
          obtain ⟨q, hq, rfl, hof, hb⟩ := hrel
          obtain ⟨A10, c10, rfl, hc11, hc12⟩ := own_slice hof
          by_cases hlt2 : q < j
          · go_wp2_with (at_builtin; refine wpList_appN rfl (.tmp 94) (.tmp 96) _ rfl w.heap.size 41 _ 4 40 Try.underlying31 deed_info rfl (by decide) _ _ _ rfl hof (ddc .redo) rfl _ rfl rfl rfl (ddc_one _) (by omega) (by omega) hb.size ?_)
            intro v8 w8 hof8 hB8 hg8
            have hb8 := hB8 _ (Nat.le_refl _) _ hb
            obtain ⟨A9, c9, rfl, hc9, hc10⟩ := own_slice hof8
            have HOF := Lib.hid hof8
            have HB8 := Lib.hid hb8
            clear hof8 hB8 hg8 hb8 hof hb
            go_wp2_with fail
            go_roundw
            case rel =>
              refine ⟨q + 1, by omega, by go_num, ?_, HB8.out⟩
              rw [List.replicate_succ', ← List.append_assoc, ← List.append_assoc, cellsOf_snoc, List.append_assoc]; exact HOF.out
            case measure => simp [intOf]; omega
          · obtain rfl : q = j := by omega
            have HEX : Hid (ds ++ (List.replicate q Dd.undo ++ List.replicate q Dd.redo) = ds ++ thereD q) := Lib.hid rfl
            rw [HEX.out] at hof
            have hdo2 : ∀ d ∈ ds ++ thereD q, dOk d := by
              intro d hd
              rcases List.mem_append.1 hd with hd | hd
              · exact HDO.out d hd
              · rw [thereD, List.mem_append, List.mem_replicate, List.mem_replicate] at hd
                rcases hd with hd | hd <;> (rw [hd.2]; trivial)
            have hdl2 : (ds ++ thereD q).length = ds.length + q + q := by simp [thereD]; omega
            have hz : q = 0 ∨ 0 < q := by omega
            generalize ds ++ thereD q = dd at *
            rw [← hdl2] at hof
            have hdr := DRow.of_own hof
            rw [hdl2] at hof
            have HH := Lib.hid (histed_any s _ dd wr (by omega) (by omega) hdo2 hdr)
            have HDR := Lib.hid hdr
            have HB := Lib.hid hb
            have HD2 := Lib.hid hdo2
            have HLN := Lib.hid hdl2
            rw [HLN.out] at HH
            clear hdr hb hdo2 hof HEX hdl2
            go_wp2_with fail
            refine HH.out.mono ?_
            rintro e w6 ⟨vt6, vc6, rfl, hot, hoc, hb6⟩
            rw [HLN.out] at hot hoc
            obtain ⟨At6, ct6, rfl, hct6, hct7⟩ := own_slice hot
            obtain ⟨Ac6, cc6, rfl, hcc6, hcc7⟩ := own_slice hoc
            have HOT := Lib.hid hot
            have HRC := Lib.hid (Reads.of_own hoc)
            have HB6 := Lib.hid (bstep HB.out hb6)
            have HC6 := Lib.hid (counts_any s _ dd w6 (by omega) (by rw [HLN.out]; omega) HD2.out (HDR.out.later hb6))
            rw [HLN.out, HA.out.2.1, HA.out.2.2.1] at HC6
            have HPL := Lib.hid (play_len dd (h0s s))
            clear hot hoc hb6 HDR HB HH
            go_wp2_with fail
            go_loopw [23] (fun i wr2 => ∃ j : Nat, ds.length ≤ j ∧ j ≤ ds.length + q + q ∧ i = .int .i64 j ∧ wr2 = w6) (fun i _ => ds.length + q + q - (intOf i).toNat)
            case atStart => exact ⟨ds.length, Nat.le_refl _, by omega, rfl, rfl⟩
            case round =>
              obtain ⟨j, hj1, hj2, rfl, hwr⟩ := hrel
              subst hwr
              by_cases hlt3 : j < ds.length + q + q
              · have hcl : j < (play (h0s s) dd).2.2.length := by rw [HPL.out.2, HLN.out]; exact hlt3
                have hlen6 : (play (h0s s) dd).2.2.length = ds.length + q + q := by rw [HPL.out.2, HLN.out]
                have hz0 := HA.out.2.2.2 j hcl hj1
                obtain ⟨b2, o2, rfl, hb2, y0⟩ := codes_at (i := j) (by rw [hlen6]; exact HRC.out) hcl
                rw [hz0] at y0
                have hlt4 : (j : Int) < (ds.length : Int) + q + q := by omega
                clear hcl hlen6 hz0
                go_wp2_with fail
                go_roundw
                case rel => exact ⟨j + 1, by omega, by omega, by go_num, by first | trivial | rfl⟩
                case measure => simp [intOf]; omega
              · have hje : j = ds.length + q + q := by omega
                have hlt4 : ¬ (j : Int) < (ds.length : Int) + q + q := by omega
                clear hje
                go_wp2_with fail
                refine HC6.out.mono ?_
                rintro e w7 ⟨rfl, hb7⟩
                have HB7 := Lib.hid (bstep HB6.out hb7)
                rcases hz with hz | hz
                · have hq0 : decide ((q : Int) = 0) = true := by rw [decide_eq_true_eq]; omega
                  go_wp2_with fail
                  go_ret
                  exact ⟨by simp, HB7.out⟩
                · have hq0 : decide ((q : Int) = 0) = false := by rw [decide_eq_false_iff_not]; omega
                  obtain ⟨m, hm⟩ : ∃ m, ds.length + q + q = m + 1 := ⟨ds.length + q + q - 1, by omega⟩
                  have hl2 := play_last dd (h0s s) m (by rw [HLN.out]; exact hm)
                  rw [HA.out.1] at hl2
                  have ho2 := HOT.out
                  obtain ⟨g, cap2, hv2, hg, hgl⟩ := ho2.form (by omega)
                  injection hv2 with e1 e2 e3
                  subst e1 e3
                  have q0 : wr.cell? ⟨g, m, none⟩ = some (.string tx) := by
                    have hzz := ho2.cellAt m (by omega)
                    rw [List.getElem?_map, hl2] at hzz; simpa using hzz
                  have q7 : w7.cell? ⟨g, m, none⟩ = some (.string tx) := (hb7.cell (p := ⟨g, m, none⟩) hgl).trans q0
                  have hgl7 := Nat.lt_of_lt_of_le hgl hb7.size
                  have hix : (ds.length : Int) + q + q - 1 = (m : Int) := by omega
                  have hml : m < ds.length + q + q := by omega
                  clear ho2 hl2 hm q0 hb7
                  go_wp2_with fail
                  go_ret
                  exact ⟨by simp, HB7.out⟩
end Go.Proofs.Ytpbpdglabeoehaa
