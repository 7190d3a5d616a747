/-
  The walk of the law HistBegin: whatever its input, it returns true and changes nothing that was there.
-/
import Derived.Test.YtpbpdglabeoehaaHistRefusedW
namespace Go.Proofs.Ytpbpdglabeoehaa
open Go.RowKit
set_option linter.unusedVariables false

theorem play_last (ds : List Dd) (h : Hs) (m : Nat) (hm : ds.length = m + 1) : (play h ds).2.1[m]? = some (after h ds).text := by
  have h1 := (play_at ds h m (by omega)).1
  have h2 : after h ds = (deed (after h (ds.take m)) (ds[m]'(by omega))).1 := by
    have e : ds = ds.take m ++ [ds[m]'(by omega)] := by rw [← List.take_succ_eq_append_getElem (by omega), List.take_of_length_le (by omega)]
    conv => lhs; rw [e]
    rw [after_append]; rfl
  rw [h1, h2]
theorem all_undone (s : ByteArray) (ds : List Dd) (hs : s.size ≤ 600) (hl : ds.length ≤ 20) : (after (h0s s) (ds ++ List.replicate 20 .undo)).undo = [] ∧ (after (h0s s) (ds ++ List.replicate 20 .undo)).text = s := by
  obtain ⟨g, h⟩ := after_good ds 0 s (h0s s) (Good.new s hs) (by simp [h0s]; omega)
  rw [after_append]
  exact undone 20 _ s _ g h
set_option maxRecDepth 100000 in
set_option maxHeartbeats 4000000 in
theorem histBegin_walk (w : World) (v0 : Value) (l : List Int) (h0 : Row .i64 w v0 l) (v1 : Value) (ts : List Trn) (h1 : Turns w v1 ts) :
    Calls Try.prog 10 #[v0, v1] w fun e w' => e = .returned (.bool true) ∧ Below w.heap.size w w' := by
  obtain ⟨AT, cT, hv1, hT1, hT2, hT3⟩ := h1
  have h1 : Turns w v1 ts := ⟨AT, cT, hv1, hT1, hT2, hT3⟩
  subst hv1
  clear hT1 hT2 hT3
  go_enter Try.func10, Try.ntmps10
  go_wp2_with fail
  refine (textOf_any v0 l 40 _ h0 (by omega) (by omega)).mono ?_
  rintro e w1 ⟨s, rfl, es0, rfl⟩
  have ss := text_len _ _ _ es0; clear es0
  simp only [show Int.toNat 40 = 40 from rfl] at ss
  go_wp2_with fail
  refine (deeds_at _ _ ts 20 s.size rfl _ h1 (by omega) (by omega)).mono ?_
  rintro e w1 ⟨vd, ds, rfl, hod, hdl, hdo, hb1⟩
  obtain ⟨Ad, cd, rfl, hcd1, hcd2⟩ := own_slice hod
  have HDO := Lib.hid hdo
  clear hdo h0 h1
  have hbw := hb1.size
  go_wp2_with fail
  go_loopw [6, 7] (fun f i wr => ∃ k : Nat, k ≤ 20 ∧ i = .int .i64 k ∧ wr.ownsRow w.heap.size 41 4 f (ds.length + k) (cellsOf ddc (ds ++ List.replicate k .undo)) ∧ Below w.heap.size w wr) (fun _ i _ => 20 - (intOf i).toNat)
  case atStart => exact ⟨0, Nat.zero_le _, rfl, by simpa using hod, hb1⟩
  case round =>
    obtain ⟨k, hk, rfl, hof, hb⟩ := hrel
    obtain ⟨A5, c5, rfl, hc5, hc6⟩ := own_slice hof
    by_cases hlt : k < 20
    · go_wp2_with (at_builtin; refine wpList_appN rfl (.tmp 24) (.tmp 26) _ rfl w.heap.size 41 _ 4 40 Try.underlying31 deed_info rfl (by decide) _ _ _ rfl hof (ddc .undo) rfl _ rfl rfl rfl (ddc_one _) (by omega) (by omega) hb.size ?_)
      intro v4 w4 hof4 hB4 hg4
      have hb4 := hB4 _ (Nat.le_refl _) _ hb
      obtain ⟨A7, c7, rfl, hc9, hc10⟩ := own_slice hof4
      have HOF := Lib.hid hof4
      have HB4 := Lib.hid hb4
      clear hof4 hB4 hg4 hb4 hof hb
      go_wp2_with fail
      go_roundw
      case rel =>
        refine ⟨k + 1, by omega, by go_num, ?_, HB4.out⟩
        rw [List.replicate_succ', ← List.append_assoc, cellsOf_snoc]; exact HOF.out
      case measure => simp [intOf]; omega
    · obtain rfl : k = 20 := by omega
      have hau := all_undone s ds (by omega) hdl
      have hdo2 : ∀ d ∈ ds ++ List.replicate 20 Dd.undo, dOk d := by
        intro d hd
        rcases List.mem_append.1 hd with hd | hd
        · exact HDO.out d hd
        · rw [List.mem_replicate] at hd; rw [hd.2]; trivial
      have hdl2 : (ds ++ List.replicate 20 Dd.undo).length = ds.length + 20 := by simp
      generalize ds ++ List.replicate 20 Dd.undo = dd at *
      rw [← hdl2] at hof
      have hdr := DRow.of_own hof
      rw [hdl2] at hof
      have HH := Lib.hid (histed_any s _ dd wr (by omega) (by omega) hdo2 hdr)
      have HDR := Lib.hid hdr
      have HB := Lib.hid hb
      have HA := Lib.hid hau
      have HD2 := Lib.hid hdo2
      have HLN := Lib.hid hdl2
      rw [HLN.out] at HH
      clear hdr hb hau hdo2 hod hb1 hof
      go_wp2_with fail
      refine HH.out.mono ?_
      rintro e w2 ⟨vt, vc, rfl, hot, hoc, hb2⟩
      rw [HLN.out] at hot hoc
      have hl2 := play_last dd (h0s s) (ds.length + 19) (by rw [HLN.out])
      rw [HA.out.2] at hl2
      obtain ⟨g, cap2, rfl, hg, hgl⟩ := hot.form (by omega)
      have q0 : w2.cell? ⟨g, ds.length + 19, none⟩ = some (.string s) := by
        have hz := hot.cellAt (ds.length + 19) (by omega)
        rw [List.getElem?_map, hl2] at hz; simpa using hz
      have hcap : ds.length + 20 ≤ cap2 := by
        obtain ⟨A9, c9, e9, h9, _⟩ := own_slice hot
        injection e9 with _ _ e9
        rw [e9]; exact h9
      obtain ⟨A8, c8, rfl, hc11, hc12⟩ := own_slice hoc
      have HC := Lib.hid (counts_any s _ dd w2 (by omega) (by omega) HD2.out (HDR.out.later hb2))
      rw [HLN.out, HA.out.1] at HC
      have HB2 := Lib.hid (bstep HB.out hb2)
      clear hot hoc hb2 hl2
      go_wp2_with fail
      refine HC.out.mono ?_
      rintro e w3 ⟨rfl, hb3⟩
      have q3 : w3.cell? ⟨g, ds.length + 19, none⟩ = some (.string s) := (hb3.cell (p := ⟨g, ds.length + 19, none⟩) hgl).trans q0
      have hgl3 := Nat.lt_of_lt_of_le hgl hb3.size
      have HB3 := Lib.hid (bstep HB2.out hb3)
      have hix : (ds.length : Int) + 20 - 1 = ((ds.length + 19 : Nat) : Int) := by omega
      clear q0 hb3
      --CUT
      go_wp2_with fail
      go_ret
      exact ⟨rfl, HB3.out⟩
end Go.Proofs.Ytpbpdglabeoehaa
