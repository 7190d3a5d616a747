/-
  The walk of the law HistRefused: whatever its input, it returns true and changes nothing that was there.
-/
import Derived.Test.YtpbpdglabeoehaaDeeds
import Derived.Test.YtpbpdglabeoehaaDiffT
namespace Go.Proofs.Ytpbpdglabeoehaa
open Go.RowKit
set_option linter.unusedVariables false

theorem fewD_snoc (l : List Dd) (d : Dd) : ∀ h, fewD h (l ++ [d]) = fewD h l ++ (if (deed (after h l) d).2 = 0 then [d] else []) := by
  induction l with
  | nil => intro h; rfl
  | cons a l ih =>
    intro h
    show fewD h (a :: (l ++ [d])) = fewD h (a :: l) ++ _
    by_cases hc : (deed h a).2 = 0
    · rw [fewD, fewD, if_pos hc, if_pos hc, ih]; rfl
    · have e : after h (a :: l) = after h l := by show after (deed h a).1 l = _; rw [deed_refused h a hc]
      rw [fewD, fewD, if_neg hc, if_neg hc, ih, e]
theorem fewT_snoc (l : List Dd) (d : Dd) : ∀ h, fewT h (l ++ [d]) = fewT h l ++ (if (deed (after h l) d).2 = 0 then [(deed (after h l) d).1.text] else []) := by
  induction l with
  | nil => intro h; rfl
  | cons a l ih =>
    intro h
    show fewT h (a :: (l ++ [d])) = fewT h (a :: l) ++ _
    by_cases hc : (deed h a).2 = 0
    · rw [fewT, fewT, if_pos hc, if_pos hc, ih]; rfl
    · have e : after h (a :: l) = after h l := by show after (deed h a).1 l = _; rw [deed_refused h a hc]
      rw [fewT, fewT, if_neg hc, if_neg hc, ih, e]
theorem fewD_len (l : List Dd) : ∀ h, (fewD h l).length ≤ l.length ∧ (fewT h l).length = (fewD h l).length ∧ ∀ d ∈ fewD h l, d ∈ l := by
  induction l with
  | nil => intro h; simp [fewD, fewT]
  | cons a l ih =>
    intro h
    unfold fewD fewT
    split
    · have := ih (deed h a).1
      refine ⟨by simp; omega, by simp [this.2.1], ?_⟩
      intro d hd
      rcases List.mem_cons.1 hd with rfl | hd
      · simp
      · exact List.mem_cons_of_mem _ (this.2.2 d hd)
    · have := ih h
      exact ⟨by simp; omega, this.2.1, fun d hd => List.mem_cons_of_mem _ (this.2.2 d hd)⟩
theorem play_at (ds : List Dd) : ∀ (h : Hs) (i : Nat) (hi : i < ds.length), (play h ds).2.1[i]? = some (deed (after h (ds.take i)) ds[i]).1.text ∧ (play h ds).2.2[i]? = some (deed (after h (ds.take i)) ds[i]).2 := by
  induction ds with
  | nil => intro h i hi; simp at hi
  | cons d ds ih =>
    intro h i hi
    cases i with
    | zero => exact ⟨rfl, rfl⟩
    | succ i => exact ih (deed h d).1 i (by simpa using hi)
theorem deeds_at (z : Int) (v : Value) (ts : List Trn) (k n : Nat) (hz : z = n) (w : World) (h : Turns w v ts) (hk : k ≤ 1000) (hn : n ≤ 10000) :
    Calls Try.prog 32 #[v, .int .i64 k, .int .i64 z] w (DeedsPost k w) := by
  subst hz; exact deeds_any v ts k n w h hk hn
/-- A list of codes that may be read. -/
theorem codes_at {w : World} {B : Nat} {A : Option Addr} {l : List Nat} (h : Reads w B 1 A l.length (cellsI l)) {i : Nat} (hi : i < l.length) : ∃ b o, A = some ⟨b, o, none⟩ ∧ b < B ∧ w.cell? ⟨b, o + i, none⟩ = some (.int .i64 (l[i] : Int)) := by
  obtain ⟨b, o, rfl, hb, hc⟩ := h.plain (by omega) (by omega)
  exact ⟨b, o, rfl, hb, hc i _ (by simp [cellsI, hi])⟩
set_option maxRecDepth 100000 in
set_option maxHeartbeats 4000000 in
theorem histRefused_walk (w : World) (v0 : Value) (l : List Int) (h0 : Row .i64 w v0 l) (v1 : Value) (ts : List Trn) (h1 : Turns w v1 ts) :
    Calls Try.prog 8 #[v0, v1] w fun e w' => e = .returned (.bool true) ∧ Below w.heap.size w w' := by
  obtain ⟨AT, cT, hv1, hT1, hT2, hT3⟩ := h1
  have h1 : Turns w v1 ts := ⟨AT, cT, hv1, hT1, hT2, hT3⟩
  subst hv1
  clear hT1 hT2 hT3
  go_enter Try.func8, Try.ntmps8
  go_wp2_with fail
  refine (textOf_any v0 l 40 _ h0 (by omega) (by omega)).mono ?_
  rintro e w1 ⟨s, rfl, es0, rfl⟩
  have ss := text_len _ _ _ es0; clear es0
  simp only [show Int.toNat 40 = 40 from rfl] at ss
  go_wp2_with fail
  refine (deeds_at _ _ ts 60 (s.size + 9) (by omega) _ h1 (by omega) (by omega)).mono ?_
  rintro e w1 ⟨vd, ds, rfl, hod, hdl, hdo, hb1⟩
  have hdr := DRow.of_own hod
  obtain ⟨Ad, cd, rfl, hcd1, hcd2⟩ := own_slice hod
  have HH := Lib.hid (histed_any s _ ds w1 (by omega) (by omega) hdo hdr)
  have HB1 := Lib.hid hb1
  have HDO := Lib.hid hdo
  clear hod hb1 hdo h0 h1
  go_wp2_with fail
  refine HH.out.mono ?_
  rintro e w2 ⟨vt, vc, rfl, hot, hoc, hb2⟩
  have hpl := play_len ds (h0s s)
  obtain ⟨At, ct, rfl, hct1, hct2⟩ := own_slice hot
  obtain ⟨Ac, cc, rfl, hcc1, hcc2⟩ := own_slice hoc
  have hrt := Reads.of_own hot
  have hrc := Reads.of_own hoc
  have hrd : Reads w1 w1.heap.size 4 Ad ds.length (cellsOf ddc ds) := by
    obtain ⟨A9, c9, e9, _, _, h9⟩ := hdr
    injection e9 with e9
    rw [e9]; exact h9
  have hrd2 := (hrd.below hb2).more hb2.size
  have HB2 := Lib.hid (bstep HB1.out hb2)
  have HRT := Lib.hid hrt
  have HRC := Lib.hid hrc
  have HRD := Lib.hid hrd2
  have HPL := Lib.hid hpl
  have HPA := Lib.hid (play_at ds (h0s s))
  clear hb2 hrd hrd2 hrt hrc hot hoc hdr HH HB1 hpl
  go_wp2_with fail
  go_loopw [10, 11, 12] (fun f t i wr => ∃ k : Nat, k ≤ ds.length ∧ i = .int .i64 k ∧ wr.ownsRow w2.heap.size 41 4 f (fewD (h0s s) (ds.take k)).length (cellsOf ddc (fewD (h0s s) (ds.take k))) ∧
    wr.ownsRow w2.heap.size 9 1 t (fewT (h0s s) (ds.take k)).length ((fewT (h0s s) (ds.take k)).map .string) ∧ Below w2.heap.size w2 wr) (fun _ _ i _ => ds.length - (intOf i).toNat)
  case atStart => exact ⟨0, Nat.zero_le _, rfl, World.ownsRow_nil _ _ _ _, World.ownsRow_nil _ _ _ _, Below.refl _ _⟩
  case round =>
    obtain ⟨k, hk, rfl, hof, hot, hb⟩ := hrel
    by_cases hlt : k < ds.length
    · have hpa := HPA.out k hlt
      have hlen := HPL.out
      have hct : k < (play (h0s s) ds).2.1.length := by rw [hlen.1]; exact hlt
      have hcc : k < (play (h0s s) ds).2.2.length := by rw [hlen.2]; exact hlt
      have e1 : (play (h0s s) ds).2.1[k] = (deed (after (h0s s) (ds.take k)) ds[k]).1.text := by
        have := hpa.1; rw [List.getElem?_eq_getElem hct] at this; exact Option.some.inj this
      have e2 : (play (h0s s) ds).2.2[k] = (deed (after (h0s s) (ds.take k)) ds[k]).2 := by
        have := hpa.2; rw [List.getElem?_eq_getElem hcc] at this; exact Option.some.inj this
      obtain ⟨b1, o1, rfl, hb1, x0, x1, x2, x3⟩ := DRow.at_ (HRD.out.below hb) hlt
      obtain ⟨b2, o2, rfl, hb2, y0⟩ := codes_at (i := k) (by rw [hlen.2]; exact HRC.out.below hb) hcc
      obtain ⟨b3, o3, rfl, hb3, z0⟩ := SRow.at_ (i := k) (by rw [hlen.1]; exact HRT.out.below hb) hct
      rw [e1] at z0
      rw [e2] at y0
      have l1 := Nat.lt_of_lt_of_le hb1 hb.size
      have l2 := Nat.lt_of_lt_of_le hb2 hb.size
      have l3 := Nat.lt_of_lt_of_le hb3 hb.size
      have HTK := Lib.hid (List.take_succ_eq_append_getElem hlt)
      have hfl := fewD_len (ds.take k) (h0s s)
      rw [List.length_take, Nat.min_eq_left hk] at hfl
      have HFL := Lib.hid hfl.2.1
      have hfl1 := hfl.1
      have HSD := Lib.hid (fewD_snoc (ds.take k) ds[k] (h0s s))
      have HST := Lib.hid (fewT_snoc (ds.take k) ds[k] (h0s s))
      clear hpa hct hcc e1 e2 hlen hfl
      generalize ds[k] = d at *
      generalize hq : (deed (after (h0s s) (ds.take k)) d).2 = q at *
      generalize (deed (after (h0s s) (ds.take k)) d).1.text = tx at *
      obtain ⟨A5, c5, rfl, hc5, hc6⟩ := own_slice hof
      obtain ⟨A6, c6, rfl, hc7, hc8⟩ := own_slice hot
      generalize fewD (h0s s) (ds.take k) = fd at *
      generalize fewT (h0s s) (ds.take k) = ft at *
      rw [HFL.out] at hot
      by_cases hq0 : q = 0
      · subst hq0
        simp only [if_true] at HSD HST
        rw [HFL.out] at hc7 ⊢
        go_wp2_with (at_builtin; refine wpList_appN rfl (.tmp 43) (.tmp 48) _ rfl w2.heap.size 41 _ 4 40 Try.underlying31 deed_info rfl (by decide) _ _ _ rfl hof (ddc d) rfl _ rfl rfl rfl (ddc_one _) (by omega) (by omega) hb.size ?_)
        intro v4 w4 hof4 hB4 hg4
        have hb4 := hB4 _ (Nat.le_refl _) _ hb
        have hot4 := hot.kept hg4 (own_own_ne hot hof (by decide))
        obtain ⟨A7, c7, rfl, hc9, hc10⟩ := own_slice hof4
        have z4 : w4.cell? ⟨b3, o3 + k, none⟩ = some (.string tx) := (hb4.cell (p := ⟨b3, o3 + k, none⟩) hb3).trans ((hb.cell (p := ⟨b3, o3 + k, none⟩) hb3).symm.trans z0)
        have l4 := Nat.lt_of_lt_of_le hb3 hb4.size
        clear hof hot hb hB4 x0 x1 x2 x3 y0 z0
        go_wp2_with (at_builtin; refine wpList_appN rfl (.tmp 50) (.tmp 55) _ rfl w2.heap.size 9 _ 1 16 Try.underlying44 str_info rfl (by decide) _ _ _ rfl hot4 [.string tx] rfl _ rfl rfl rfl (by simp [Value.oneCell']) (by omega) (by omega) hb4.size ?_)
        intro v5 w5 hot5 hB5 hg5
        have hb5 := hB5 _ (Nat.le_refl _) _ hb4
        have hof5 := hof4.kept hg5 (own_own_ne hof4 hot4 (by decide))
        obtain ⟨A8, c8, rfl, hc11, hc12⟩ := own_slice hot5
        have HOF := Lib.hid hof5
        have HOT := Lib.hid hot5
        have HB5 := Lib.hid hb5
        clear hof4 hot4 hb4 hB5 hg4 hg5 z4 hof5 hot5 hb5
        go_wp2_with fail
        go_roundw
        case rel =>
          refine ⟨k + 1, by omega, by go_num, ?_, ?_, HB5.out⟩
          · rw [HTK.out, HSD.out, cellsOf_snoc, List.length_append]; exact HOF.out
          · rw [HTK.out, HST.out, List.map_append, List.length_append, HFL.out]; exact HOT.out
        case measure => simp [intOf]; omega
      · have hqb : decide ((q : Int) = 0) = false := by simp; omega
        rw [if_neg hq0, List.append_nil] at HSD HST
        have HOF := Lib.hid hof
        have HOT := Lib.hid hot
        have HB5 := Lib.hid hb
        clear hof hot hb
        go_wp2_with fail
        go_roundw
        case rel =>
          refine ⟨k + 1, by omega, by go_num, ?_, ?_, HB5.out⟩
          · rw [HTK.out, HSD.out]; exact HOF.out
          · rw [HTK.out, HST.out, HFL.out]; exact HOT.out
        case measure => simp [intOf]; omega
    · obtain rfl : k = ds.length := by omega
      have e : ds.take ds.length = ds := List.take_length
      rw [e] at hof hot
      have hfl := fewD_len ds (h0s s)
      have hdr := DRow.of_own hof
      obtain ⟨A5, c5, rfl, hc5, hc6⟩ := own_slice hof
      have hst := SRow.of_own hot
      obtain ⟨A6, c6, rfl, hc7, hc8⟩ := own_slice hot
      have HH := Lib.hid (histed_any s _ (fewD (h0s s) ds) wr (by omega) (by omega) (fun d hd => HDO.out d (hfl.2.2 d hd)) hdr)
      have HST := Lib.hid hst
      have HB3 := Lib.hid (bstep HB2.out hb)
      have HFP := Lib.hid (few_play ds (h0s s))
      have HPL2 := Lib.hid (play_len (fewD (h0s s) ds) (h0s s))
      clear hof hot hdr hst hb e hfl
      go_wp2_with fail
      refine HH.out.mono ?_
      rintro e w3 ⟨vt2, vc2, rfl, hot3, hoc3, hb3⟩
      obtain ⟨A7, c7, rfl, hc9, hc10⟩ := own_slice hot3
      obtain ⟨A8, c8, rfl, hc11, hc12⟩ := own_slice hoc3
      rw [← (play_len (fewD (h0s s) ds) (h0s s)).1] at hot3
      have hst3 := SRow.of_own hot3
      rw [HFP.out] at hst3
      have HTX := Lib.hid (texts_any _ _ _ _ w3 hst3 (HST.out.later hb3))
      have HB4 := Lib.hid (bstep HB3.out hb3)
      clear hot3 hoc3 hst3 hb3
      have hft := (fewD_len ds (h0s s)).2.1
      simp only [hft, decide_true] at HTX ⊢
      go_wp2_with fail
      refine HTX.out.mono ?_
      rintro e w4 ⟨rfl, hb4⟩
      go_wp2_with fail
      go_ret
      exact ⟨rfl, bstep HB4.out hb4⟩
end Go.Proofs.Ytpbpdglabeoehaa
