/-
  The walk of the law TopMarks: whatever its input, it returns true and changes nothing that was there.
-/
import Derived.Test.YtcgcakmpjeodfaaTopP
import Derived.Test.YtcgcakmpjeodfaaLine
import Derived.Test.YtcgcakmpjeodfaaFollow
import Derived.Test.YtcgcakmpjeodfaaOrdC
import Derived.Test.YtcgcakmpjeodfaaOrdF
import Derived.Deep.DeepCutAuto
import Derived.Test.YtcgcakmpjeodfaaReg
namespace Go.Proofs.Ytcgcakmpjeodfaa
open Go.RowKit
set_option linter.unusedVariables false

set_option maxRecDepth 100000 in
set_option maxHeartbeats 8000000 in
theorem topMarks_walk (w : World) (v0 : Value) (l : List Int) (h0 : Row .i64 w v0 l) (v1 : Value) (cs : List Chg) (h1 : Chgs w v1 cs) :
    Calls Try.prog 3 #[v0, v1] w fun e w' => e = .returned (.bool true) ∧ Below w.heap.size w w' := by
  obtain ⟨AC, cc, rfl, hlC, hcC, hrC⟩ := h1.plain
  unfold maxLen at hcC
  have HRC := Lib.hid hrC
  clear hrC h1
  go_enter Try.func3, Try.ntmps3
  go_wp2_with fail
  refine (textOf_any v0 l 100 _ h0 (by omega) (by omega)).mono ?_
  rintro e w1 ⟨s, rfl, es0, rfl⟩
  have ss := text_len _ _ _ es0; clear es0
  simp only [show Int.toNat 100 = 100 from rfl] at ss
  go_wp2_with fail
  refine (Starts_any s _ (by omega)).mono ?_
  rintro e w1 ⟨vs, rfl, hr, hb1⟩
  have hsl := starts_len s.data.toList
  have hl0 : s.data.toList.length = s.size := by simp
  have hs1 : 0 < (starts s.data.toList).length := by simp [starts]
  obtain ⟨A, c, rfl, hlc, hc, hwf, hrd⟩ := id hr
  unfold maxLen at hc
  have hz : (((starts s.data.toList).length : Int) == 0) = false := beq_eq_false_iff_ne.2 (by omega)
  have HR := Lib.hid hr
  have HRD := Lib.hid hrd
  have HS0 := Lib.hid (fun x hx => (starts_wfb s.data.toList (by omega) x hx).1)
  have HMO := Lib.hid (mkOf_len (starts s.data.toList))
  clear hr hrd hwf
  go_wp2_with fail
  clear hz
  go_loopw [8, 9] (fun m i wr => ∃ k : Nat, k ≤ (starts s.data.toList).length ∧ k ≤ 60 ∧ i = .int .i64 k ∧ wr.ownsRow w1.heap.size 30 2 m k (cellsOf mkc ((mkOf (starts s.data.toList)).take k)) ∧ Below w1.heap.size w1 wr) (fun _ i _ => (starts s.data.toList).length - (intOf i).toNat)
  case atStart => exact ⟨0, Nat.zero_le _, by omega, rfl, by simpa [cellsOf] using World.ownsRow_nil _ _ _ _, Below.refl _ _⟩
  case round =>
    obtain ⟨k, hk, hk6, rfl, hown, hbel⟩ := hrel
    by_cases hlt : k < (starts s.data.toList).length
    · by_cases hlt2 : k < 60
      · obtain ⟨b0, o0, rfl, hab, hcell⟩ := Row.at_ (HRD.out.below hbel) hlt
        have hMk : k < (mkOf (starts s.data.toList)).length := by rw [HMO.out]; omega
        have hat := mkOf_at (starts s.data.toList) k hMk HS0.out
        have hrt : (mkOf (starts s.data.toList))[k].right = false := by simp [mkOf]
        have HTK := Lib.hid (show (mkOf (starts s.data.toList)).take (k + 1) = (mkOf (starts s.data.toList)).take k ++ [(mkOf (starts s.data.toList))[k]] from List.take_succ_eq_append_getElem hMk)
        have HMK := Lib.hid (show mkc (mkOf (starts s.data.toList))[k] = [.int .i64 ((starts s.data.toList).getD k 0), .bool false] by unfold mkc; rw [hat, hrt])
        clear hat hrt
        generalize (starts s.data.toList).getD k 0 = y at *
        go_wp2_with (at_builtin; refine wpList_appN rfl (.tmp 48) (.tmp 54) _ rfl w1.heap.size 30 _ 2 16 Try.underlying28 mark_info rfl (by decide) _ k _ rfl hown [.int .i64 y, .bool false] rfl _ rfl rfl rfl (by simp [Value.oneCell']) (by omega) (by omega) hbel.size ?_)
        intro v' w2 hown2 hbel2 hgr
        replace hbel2 := hbel2 _ (Nat.le_refl _) _ hbel
        clear hown hgr hcell
        go_wp2_with fail
        go_roundw
        case rel =>
          refine ⟨k + 1, by omega, by omega, by go_num, ?_, hbel2⟩
          rw [HTK.out, cellsOf_snoc, HMK.out]; exact hown2
        case measure => simp [intOf]; omega
      · have HK := Lib.hid (show (mkOf (starts s.data.toList)).take k = mkOf (starts s.data.toList) ∧ k = (mkOf (starts s.data.toList)).length by
          rw [HMO.out]; exact ⟨List.take_of_length_le (by rw [HMO.out]; omega), by omega⟩)
        rw [HK.out.1] at hown
        rw [HK.out.2] at hown
        have hr1 := HR.out.later hbel
        have HSL := Lib.hid (starts_len_eq s.data.toList)
        replace hown := own_mono hown hb1.size
        replace hbel := bstep hb1 hbel
        clear HR HRD HMO hb1 HK hlc hsl hs1 hk hk6 HS0 HSL
        go_wp2_with fail
        clear hlt hlt2
        go_loopw [8, 10, 11, 12] (fun m nw st i wq => ∃ (j : Nat) (t : ByteArray), j ≤ cs.length ∧ j ≤ 8 ∧ i = .int .i64 j ∧ nw = .string t ∧ t.size ≤ 100 + 6 * j ∧ Row .i64 wq st (starts t.data.toList) ∧ wq.ownsRow w.heap.size 30 2 m (mkOf (starts t.data.toList)).length (cellsOf mkc (mkOf (starts t.data.toList))) ∧ Below w.heap.size w wq) (fun _ _ _ i _ => cs.length - (intOf i).toNat)
        case atStart => exact ⟨0, s, Nat.zero_le _, by omega, rfl, rfl, by omega, hr1, hown, hbel⟩
        case round =>
          obtain ⟨j, t, hj, hj8, rfl, rfl, htz, hrt, hownt, hbt⟩ := hrel
          have ht6 : t.size ≤ 148 := by omega
          have hlt0 : t.data.toList.length = t.size := by simp
          have hsl := starts_len t.data.toList
          by_cases hjl : j < cs.length
          · by_cases hj2 : j < 8
            · obtain ⟨b0, o0, rfl, hab, hcell⟩ := HRC.out (by omega)
              obtain ⟨u0', u1', u2', c0, c1, c2, hx⟩ := hcell j cs[j] (List.getElem?_eq_getElem hjl)
              clear hcell c1
              obtain ⟨rfl, -, hput, hpx, -⟩ := hx
              rw [← hbt.cell (p := ⟨b0, _, none⟩) hab] at c0 c2
              replace hput := hput.later hbt
              have hab2 : b0 < wr.heap.size := Nat.lt_of_lt_of_le hab hbt.size
              generalize cs[j].p = xp at *
              generalize cs[j].put = xput at *
              have P1 := Lib.hid (fun W => picked_any xp ((t.size : Int) + 1) W hpx (by omega) (by omega))
              have m1 := Int.emod_nonneg xp (show ((t.size : Int) + 1) ≠ 0 by omega)
              have m2 := Int.emod_lt_of_pos xp (show (0 : Int) < (t.size : Int) + 1 by omega)
              generalize xp % ((t.size : Int) + 1) = y1 at *
              obtain ⟨p, rfl⟩ : ∃ n : Nat, y1 = (n : Int) := ⟨y1.toNat, by omega⟩
              have hp : p ≤ t.size := by omega
              clear m1 m2 hpx
              have LN := Lib.hid (fun W v (h : Row .i64 W v (starts t.data.toList)) => line_any v (starts t.data.toList) p W h (asc_starts t (by omega)) (by omega) (starts_sorted _))
              rw [atMost_starts t.data.toList p (by omega)] at LN
              have e1 : ((((lnsL (t.data.toList.take p) + 1 : Nat) : Int)) - 1) = (lnsL (t.data.toList.take p) : Int) := by omega
              rw [e1] at LN
              clear e1
              have SA := Lib.hid (start_at t.data.toList p (by omega))
              obtain ⟨A5, cp5, hv5, hlc5, hc5, hwf5, hrd5⟩ := id hrt
              subst hv5
              unfold maxLen at hc5
              have HRT := Lib.hid hrt
              have HOW := Lib.hid hownt
              clear hrt hownt hwf5 hrd5
              go_wp2_with fail
              refine (P1.out _).mono ?_
              rintro e w' ⟨rfl, rfl⟩
              clear P1
              go_wp2_with (at_builtin; refine wpList_copyInts rfl (.tmp 78) _ rfl 3 .i64 _ 8 Try.underlying22 int_info rfl _ (starts t.data.toList) rfl HRT.out (by omega) (by omega) ?_)
              intro v2 w2 _ hr2 hb2
              go_wp2_with fail
              refine (LN.out _ _ hr2).mono ?_
              rintro e w3 ⟨rfl, hb3⟩
              have hb23 := hb2.trans (hb3.mono hb2.size)
              replace HRT := Lib.hid (HRT.out.later hb23)
              replace HOW := Lib.hid (own_below HOW.out hb23)
              replace hbt := bstep hbt hb23
              rw [← hb23.cell (p := ⟨b0, _, none⟩) hab2] at c2
              replace hput := hput.later hb23
              clear c0 hr2 hb2 hb3 LN
              have hab3 := Nat.lt_of_lt_of_le hab2 hb23.size
              clear hb23 hab2
              obtain ⟨A', c', hv, -, -, -, hrd⟩ := HRT.out
              injection hv with hv1 hv2 hv3
              subst hv1; subst hv3
              obtain ⟨b5, o5, rfl, hb5, hcell5⟩ := Row.at_ hrd SA.out.2
              rw [SA.out.1] at hcell5
              have hnl := SA.out.2
              have c1 := col_le (t.data.toList.take p)
              rw [List.length_take, hlt0] at c1
              clear SA hrd hv2
              generalize lnsL (t.data.toList.take p) = n at *
              generalize colL (t.data.toList.take p) = q at *
              by_cases hq : q = 0
              · subst hq
                have e5 : (p : Int) - ((0 : Nat) : Int) = p := by omega
                rw [e5] at hcell5
                clear e5
                go_wp2_with fail
                go_roundw
                case rel => exact ⟨j + 1, t, by omega, by omega, by go_num, rfl, by omega, HRT.out, HOW.out, hbt⟩
                case measure => simp [intOf]; omega
              · have e5 : ((p : Int) - (q : Int) == (p : Int)) = false := beq_eq_false_iff_ne.2 (by omega)
                go_wp2_with fail
                refine (few_any u2' xput 6 _ hput (by omega) (by omega)).mono ?_
                rintro e w4 ⟨put, rfl, hpd, hb4⟩
                have hps : put.size ≤ 6 := by
                  have : put.data.toList.length ≤ 6 := by rw [hpd]; simp; omega
                  simpa using this
                have HPS := Lib.hid (put_starts t p put hp (fun b hb => by rw [hpd] at hb; exact ab_no _ b hb))
                have HPU := Lib.hid (mkOf_push (starts t.data.toList) p put (fun y hy => (starts_wfb t.data.toList (by omega) y hy).1))
                rw [← HPS.out] at HPU
                have HMZ := Lib.hid (show (mk t ⟨p, 0, put⟩).size = t.size + put.size by rw [mk_size t ⟨p, 0, put⟩ (by simpa using hp)]; rfl)
                have HLEN := Lib.hid (show (starts (mk t ⟨p, 0, put⟩).data.toList).length = (starts t.data.toList).length by rw [HPS.out, List.length_map])
                have HML := Lib.hid (mkOf_len (starts t.data.toList))
                have HUP := Lib.hid (fun v W (h : Row .i64 W v (starts t.data.toList)) => update_any v (starts t.data.toList) t.size ⟨p, 0, put⟩ W h (asc_starts t (by omega)) (by omega) (starts_wfb t.data.toList (by omega)) (starts_sorted _) (fun i => by have := starts_le t.data.toList i; omega) (by omega) (by simpa using hp) (by simp; omega))
                have HUS := Lib.hid (updated_starts t ⟨p, 0, put⟩ (by simpa using hp))
                have hokr : okr t.size [⟨p, 0, put⟩] := ⟨by simpa using hp, by simp; omega, trivial⟩
                have HMV := Lib.hid (fun v1 v2 base W (h1 : World.ownsRow W base 30 2 v1 (mkOf (starts t.data.toList)).length (cellsOf mkc (mkOf (starts t.data.toList)))) (h2 : EdRow W v2 [⟨p, 0, put⟩]) =>
                  move_any t.size v1 v2 (mkOf (starts t.data.toList)) [⟨p, 0, put⟩] W base h1 h2 (by omega) (fun m hm => by
                    obtain ⟨k, hk, rfl⟩ := List.getElem_of_mem hm
                    have h1 := mkOf_at (starts t.data.toList) k hk (fun y hy => (starts_wfb t.data.toList (by omega) y hy).1)
                    have h2 := starts_le t.data.toList k
                    omega) (by rw [HML.out]; omega) (by simp) (fun e he => by simp at he; subst he; show put.size ≤ 600; omega) hokr)
                have HAP := Lib.hid (fun v W (h : EdRow W v [⟨p, 0, put⟩]) => apply_any t v [⟨p, 0, put⟩] W h (by omega) (by simp) (fun e he => by simp at he; subst he; show put.size ≤ 600; omega) hokr)
                have hk4 := bstep hbt hb4
                have HOW4 := own_below HOW.out hb4
                have HRT4 := HRT.out.later hb4
                clear hbt HOW HRT hput hb4 hpd c2 hcell5 hb5 hab3 hokr
                have T4 := Three.new w4 (.int .i64 (p : Int)) (.int .i64 0) (.string put) 37
                replace HOW4 := HOW4.alloc (.cells #[.int .i64 (p : Int), .int .i64 0, .string put] 37)
                replace HRT4 := HRT4.later ((Below.refl _ w4).alloc (Nat.le_refl _) (.cells #[.int .i64 (p : Int), .int .i64 0, .string put] 37))
                replace hk4 := hk4.alloc hk4.size (.cells #[.int .i64 (p : Int), .int .i64 0, .string put] 37)
                obtain ⟨A8, c8, hv8, hl8, hc8⟩ := own_slice HOW4
                subst hv8
                go_wp2_with fail
                generalize w4.alloc (.cells #[.int .i64 (p : Int), .int .i64 0, .string put] 37) = W at *
                generalize w4.heap.size = g at *
                have hml : (mkOf (starts t.data.toList)).length ≤ 60 := by rw [HML.out]; omega
                have hml2 : (mkOf (starts (mk t ⟨p, 0, put⟩).data.toList)).length = (mkOf (starts t.data.toList)).length := by rw [mkOf_len, HLEN.out, ← HML.out]
                have HML2 := Lib.hid hml2
                clear hml2
                have HOW5 := Lib.hid HOW4
                have HRT5 := Lib.hid HRT4
                have HK5 := Lib.hid hk4
                clear HOW4 HRT4 hk4
                go_cut [17, 18] (fun m z wc => z = .int .i64 0 ∧ wc.ownsRow W.heap.size 30 2 m (mkOf (starts t.data.toList)).length (cellsOf mkc (mkOf (starts (mk t ⟨p, 0, put⟩).data.toList))) ∧ Below W.heap.size W wc)
                case first =>
                  refine wp_region_pf [([0, 1, 2, 4], [(3, 5)], [6]), ([7, 8, 9, 10, 11], [], [])] (fun w' => Below W.heap.size W w') (by kernel_rfl) (by kernel_rfl) (fun _ _ h1 h2 => bstep h1 h2) (Below.refl _ _) ?_
                  intro ι F hne hF W0 hW0 _
                  obtain ⟨t9, t0, t1, t2⟩ := T4
                  have x0F : ∀ i, (F i).cell? ⟨g, 0, none⟩ = some (.int .i64 (p : Int)) := fun i => ((hF i).cell (p := ⟨g, 0, none⟩) t9).trans t0
                  have x1F : ∀ i, (F i).cell? ⟨g, 1, none⟩ = some (.int .i64 0) := fun i => ((hF i).cell (p := ⟨g, 1, none⟩) t9).trans t1
                  have x2F : ∀ i, (F i).cell? ⟨g, 2, none⟩ = some (.string put) := fun i => ((hF i).cell (p := ⟨g, 2, none⟩) t9).trans t2
                  refine wpPf_cons ?_
                  simp only [pickOps, List.getElem?_cons_succ, List.getElem?_cons_zero]
                  repeat (refine wpB_step (fun K hK => ?_); go_simp; first | (refine hK _ ?_; clear hK K) | (apply Exists.intro; refine ⟨fun _ => ?_, hK _ ?_⟩; (fail); clear hK K))
                  refine wpB_nil ?_
                  intro w2 hw2 hI2
                  clear x0F x1F x2F t0 t1 t2 t9 hW0 hF
                  refine wpFk_cons ?_ ?_
                  · simp only [pickOps, List.getElem?_cons_succ, List.getElem?_cons_zero]
                    refine wpRB_copy rfl (.tmp 113) _ rfl 30 _ 2 16 Try.underlying28 mark_info rfl (by decide) A8 _ c8 _ rfl (Reads.of_own (own_below HOW5.out hI2)) (cellsOf_oneCell mkc_one _) (by omega) (by omega) ?_
                    intro v3 w3 ho3 hb3
                    refine ⟨bstep hI2 hb3, ?_⟩
                    intro w4 hw4 hI4
                    have ho4 := own_below ho3 hw4
                    obtain ⟨A3, c3, hv3, hl3, hc3⟩ := own_slice ho4
                    subst hv3
                    (refine wpRB_step (fun K hK => ?_); go_simp; refine hK _ _ ⟨hI4.alloc hI4.size _, ?_⟩; clear hK K)
                    intro w5 hw5 hI5
                    have ho5 := own_below (ho4.alloc (.cells #[.int .i64 (p : Int), .int .i64 0, .string put] 37)) hw5
                    have he5 := (EdRow.lit w4 37 [⟨p, 0, put⟩] (show 1 ≤ maxLen by decide)).later hw5
                    refine wpRB_nil ?_
                    refine wpFk_nil ?_
                    refine wpRB_step (fun K hK => ?_)
                    go_simp
                    refine (HMV.out _ _ _ _ ho5 he5).mono ?_
                    rintro e w6 ⟨v6, rfl, ho6, hb6⟩
                    refine ⟨_, rfl, hK _ _ ⟨bstep hI5 hb6, ?_⟩⟩
                    clear hK K
                    intro w7 hw7 hI7
                    have ho7 := own_below ho6 hw7
                    rw [← HPU.out] at ho7
                    refine wpRB_nil ?_
                    refine wpPf_cons ?_
                    simp only [pickOps, List.getElem?_cons_succ, List.getElem?_cons_zero]
                    repeat (refine wpB_step (fun K hK => ?_); go_simp; first | (refine hK _ ?_; clear hK K) | (apply Exists.intro; refine ⟨fun _ => ?_, hK _ ?_⟩; (fail); clear hK K))
                    refine wpB_nil ?_
                    intro w8 hw8 hI8
                    have ho8 := own_mono (own_below ho7 hw8) (bstep hI5 (Below.refl _ _)).size
                    refine wpFk_nil ?_
                    refine wpRB_nil ?_
                    refine wpPf_nil ?_
                    go_wp2_with fail
                    go_meet
                    exact ⟨rfl, ho8, hI8⟩
                  · simp only [pickOps, List.getElem?_cons_succ, List.getElem?_cons_zero]
                    (refine wpRB_step (fun K hK => ?_); go_simp; refine hK _ _ ⟨hI2.alloc hI2.size _, ?_⟩; clear hK K)
                    intro w3 hw3 hI3
                    have he3 := (EdRow.lit w2 37 [⟨p, 0, put⟩] (show 1 ≤ maxLen by decide)).later hw3
                    refine wpRB_copy rfl (.tmp 113) _ rfl 30 _ 2 16 Try.underlying28 mark_info rfl (by decide) A8 _ c8 _ rfl (Reads.of_own (own_below HOW5.out hI3)) (cellsOf_oneCell mkc_one _) (by omega) (by omega) ?_
                    intro v3 w4 ho4 hb4
                    refine ⟨bstep hI3 hb4, ?_⟩
                    intro w5 hw5 hI5
                    have ho5 := own_below ho4 hw5
                    have he5 := (he3.later hb4).later hw5
                    refine wpRB_nil ?_
                    refine wpFk_nil ?_
                    refine wpRB_step (fun K hK => ?_)
                    go_simp
                    refine (HMV.out _ _ _ _ ho5 he5).mono ?_
                    rintro e w6 ⟨v6, rfl, ho6, hb6⟩
                    refine ⟨_, rfl, hK _ _ ⟨bstep hI5 hb6, ?_⟩⟩
                    clear hK K
                    intro w7 hw7 hI7
                    have ho7 := own_below ho6 hw7
                    rw [← HPU.out] at ho7
                    refine wpRB_nil ?_
                    refine wpPf_cons ?_
                    simp only [pickOps, List.getElem?_cons_succ, List.getElem?_cons_zero]
                    repeat (refine wpB_step (fun K hK => ?_); go_simp; first | (refine hK _ ?_; clear hK K) | (apply Exists.intro; refine ⟨fun _ => ?_, hK _ ?_⟩; (fail); clear hK K))
                    refine wpB_nil ?_
                    intro w8 hw8 hI8
                    have ho8 := own_mono (own_below ho7 hw8) (bstep hI5 (Below.refl _ _)).size
                    refine wpFk_nil ?_
                    refine wpRB_nil ?_
                    refine wpPf_nil ?_
                    go_wp2_with fail
                    go_meet
                    exact ⟨rfl, ho8, hI8⟩
                case rest =>
                  obtain ⟨rfl, hom, hbm⟩ := hcut
                  have hrt1 := HRT5.out.later hbm
                  have T5 := T4.later hbm
                  have kk := bstep HK5.out hbm
                  replace hom := own_mono hom HK5.out.size
                  obtain ⟨A7, c7, hv7, hl7, hc7⟩ := own_slice hom
                  subst hv7
                  have HOM := Lib.hid hom
                  have HRT6 := Lib.hid hrt1
                  have HKK := Lib.hid kk
                  clear hom hrt1 kk hbm HK5 HRT5 HOW5 T4 HMV
                  go_wp2_with fail
                  clear W
                  generalize wc = W at *
                  go_cut [19, 20] (fun m z wc => z = .int .i64 0 ∧ Row .i64 wc m (starts (mk t ⟨p, 0, put⟩).data.toList) ∧ Below W.heap.size W wc)
                  case first =>
                    refine wp_region_ph [([0, 2, 3, 4], [1, 5]), ([6, 7, 8, 9, 10], [])] (fun w' => Below W.heap.size W w') (by kernel_rfl) (by kernel_rfl) (fun _ _ h1 h2 => bstep h1 h2) (Below.refl _ _) ?_
                    intro ι F hne hF W0 hW0 _
                    obtain ⟨t9, t0, t1, t2⟩ := T5
                    have x0F : ∀ i, (F i).cell? ⟨g, 0, none⟩ = some (.int .i64 (p : Int)) := fun i => ((hF i).cell (p := ⟨g, 0, none⟩) t9).trans t0
                    have x1F : ∀ i, (F i).cell? ⟨g, 1, none⟩ = some (.int .i64 0) := fun i => ((hF i).cell (p := ⟨g, 1, none⟩) t9).trans t1
                    have x2F : ∀ i, (F i).cell? ⟨g, 2, none⟩ = some (.string put) := fun i => ((hF i).cell (p := ⟨g, 2, none⟩) t9).trans t2
                    (refine wpPh_cons ?_; simp only [pickOps, List.getElem?_cons_succ, List.getElem?_cons_zero])
                    repeat (refine wpB_step (fun K hK => ?_); go_simp; first | (refine hK _ ?_; clear hK K) | (apply Exists.intro; refine ⟨fun _ => ?_, hK _ ?_⟩; (fail); clear hK K))
                    refine wpB_nil ?_
                    intro w2 hw2 hI2
                    clear x0F x1F x2F t0 t1 t2 t9 hW0 hF
                    refine wpRB_copyInts rfl (.tmp 121) _ rfl 3 .i64 _ 8 Try.underlying22 int_info rfl _ (starts t.data.toList) rfl (HRT6.out.later hI2) (by omega) (by omega) ?_
                    intro v3 w3 _ hr3 hb3
                    refine ⟨bstep hI2 hb3, ?_⟩
                    intro w4 hw4 hI4
                    replace hr3 := hr3.later hw4
                    refine wpRB_step (fun K hK => ?_)
                    go_simp
                    refine (HUP.out _ _ hr3).mono ?_
                    rintro e w5 ⟨v5, rfl, hr5, hb5⟩
                    refine ⟨_, rfl, hK _ _ ⟨bstep hI4 hb5, ?_⟩⟩
                    clear hK K
                    intro w6 hw6 hI6
                    replace hr5 := hr5.later hw6
                    rw [HUS.out] at hr5
                    refine wpRB_nil ?_
                    (refine wpPh_cons ?_; simp only [pickOps, List.getElem?_cons_succ, List.getElem?_cons_zero])
                    repeat (refine wpB_step (fun K hK => ?_); go_simp; first | (refine hK _ ?_; clear hK K) | (apply Exists.intro; refine ⟨fun _ => ?_, hK _ ?_⟩; (fail); clear hK K))
                    refine wpB_nil ?_
                    intro w7 hw7 hI7
                    replace hr5 := hr5.later hw7
                    refine wpRB_nil ?_
                    refine wpPh_nil ?_
                    go_wp2_with fail
                    go_meet
                    exact ⟨rfl, hr5, hI7⟩
                  case rest =>
                    obtain ⟨rfl, hru, hbm⟩ := hcut
                    have hom := own_below HOM.out hbm
                    have T6 := T5.later hbm
                    have kk := bstep HKK.out hbm
                    clear hbm HKK HOM HRT6 T5 HUP
                    have he6 := EdRow.lit wc 37 [⟨p, 0, put⟩] (show 1 ≤ maxLen by decide)
                    obtain ⟨t9, t0, t1, t2⟩ := T6
                    go_wp2_with fail
                    refine (HAP.out _ _ he6).mono ?_
                    rintro e w8 ⟨rfl, hb8⟩
                    have hb9 := bstep_alloc hb8
                    replace hom := own_below hom hb9
                    replace hru := hru.later hb9
                    replace kk := bstep kk hb9
                    clear t0 t1 t2 t9 he6 hb8 hb9
                    have hrn : rn t [⟨p, 0, put⟩] = mk t ⟨p, 0, put⟩ := rfl
                    rw [hrn]
                    clear hrn
                    have HRU := Lib.hid hru
                    obtain ⟨A6, c6, hv6, hl6, hc6, -, -⟩ := hru
                    subst hv6
                    have HOM := Lib.hid hom
                    clear hom
                    have HMZ2 := Lib.hid (show (mk t ⟨p, 0, put⟩).size ≤ 100 + 6 * (j + 1) by rw [HMZ.out]; omega)
                    rw [HLEN.out] at hl6 ⊢
                    generalize hT : mk t ⟨p, 0, put⟩ = t' at *
                    go_wp2_with fail
                    go_roundw
                    case rel => exact ⟨j + 1, t', by omega, by omega, by go_num, rfl, HMZ2.out, by rw [← HLEN.out]; exact HRU.out, by rw [HML2.out]; exact HOM.out, kk⟩
                    case measure => simp [intOf]; omega
            · obtain ⟨A5, cp5, hv5, hlc5, hc5, hwf5, hrd5⟩ := id hrt
              subst hv5
              unfold maxLen at hc5
              obtain ⟨A8, c8, hv8, hl8, hc8, hrm⟩ := CRow.of_own mkc_len hownt
              subst hv8
              have HML := Lib.hid (mkOf_len (starts t.data.toList))
              have hmle : (mkOf (starts t.data.toList)).length ≤ (starts t.data.toList).length := by rw [HML.out]; omega
              have hml6 : (mkOf (starts t.data.toList)).length ≤ 60 := by rw [HML.out]; omega
              have HAT := Lib.hid (fun k (h : k < (mkOf (starts t.data.toList)).length) => mkOf_at (starts t.data.toList) k h (fun y hy => (starts_wfb t.data.toList (by omega) y hy).1))
              have HRM := Lib.hid hrm
              have HRD := Lib.hid hrd5
              have HOW := Lib.hid hownt
              have HRT := Lib.hid hrt
              have HSB := Lib.hid (starts_wfb t.data.toList (by omega))
              clear hrm hrd5 hownt hrt hwf5
              go_wp2_with fail
              clear hj2
              generalize hX : starts t.data.toList = X at *
              clear hX
              go_loopw [23] (fun i wq => ∃ k : Nat, k ≤ (mkOf X).length ∧ i = .int .i64 k ∧ Below wr.heap.size wr wq) (fun i _ => (mkOf X).length - (intOf i).toNat)
              case atStart => exact ⟨0, Nat.zero_le _, rfl, Below.refl _ _⟩
              case round =>
                obtain ⟨k, hk, rfl, hbq⟩ := hrel
                by_cases hkl : k < (mkOf X).length
                · have hkx : k < X.length := by omega
                  obtain ⟨bm, om, rfl, hbm, a0, a1⟩ := CRow.at2 (x := fun m : Mk => .int .i64 (m.at_ : Int)) (y := fun m => .bool m.right) (HRM.out.below hbq) hkl
                  obtain ⟨b5, o5, rfl, hb5, x0⟩ := Row.at_ (HRD.out.below hbq) hkx
                  rw [HAT.out k hkl] at a0
                  have hyb : -9223372036854775808 ≤ X.getD k 0 ∧ X.getD k 0 ≤ 9223372036854775807 := by
                    have := HSB.out (X.getD k 0) (by simp [List.getD, hkx]); omega
                  clear a1 hbm hb5
                  generalize X.getD k 0 = y at *
                  have i0 : (0 : Int) ≤ (k : Int) := Int.natCast_nonneg _
                  have i1 : (k : Int) < ((mkOf X).length : Int) := by omega
                  have i2 : (k : Int) < (X.length : Int) := by omega
                  go_wp2_with fail
                  go_quiet (fail)
                  go_wp2_with fail
                  go_roundw
                  case rel => exact ⟨k + 1, by omega, by go_num, below_drewN hbq _⟩
                  case measure => simp [intOf]; omega
                · go_wp2_with fail
                  go_ret
                  exact ⟨rfl, bstep hbt hbq⟩
          · obtain ⟨A5, cp5, hv5, hlc5, hc5, hwf5, hrd5⟩ := id hrt
            subst hv5
            unfold maxLen at hc5
            obtain ⟨A8, c8, hv8, hl8, hc8, hrm⟩ := CRow.of_own mkc_len hownt
            subst hv8
            have HML := Lib.hid (mkOf_len (starts t.data.toList))
            have hmle : (mkOf (starts t.data.toList)).length ≤ (starts t.data.toList).length := by rw [HML.out]; omega
            have hml6 : (mkOf (starts t.data.toList)).length ≤ 60 := by rw [HML.out]; omega
            have HAT := Lib.hid (fun k (h : k < (mkOf (starts t.data.toList)).length) => mkOf_at (starts t.data.toList) k h (fun y hy => (starts_wfb t.data.toList (by omega) y hy).1))
            have HRM := Lib.hid hrm
            have HRD := Lib.hid hrd5
            have HOW := Lib.hid hownt
            have HRT := Lib.hid hrt
            have HSB := Lib.hid (starts_wfb t.data.toList (by omega))
            clear hrm hrd5 hownt hrt hwf5
            go_wp2_with fail
            clear hjl
            generalize hX : starts t.data.toList = X at *
            clear hX
            go_loopw [23] (fun i wq => ∃ k : Nat, k ≤ (mkOf X).length ∧ i = .int .i64 k ∧ Below wr.heap.size wr wq) (fun i _ => (mkOf X).length - (intOf i).toNat)
            case atStart => exact ⟨0, Nat.zero_le _, rfl, Below.refl _ _⟩
            case round =>
              obtain ⟨k, hk, rfl, hbq⟩ := hrel
              by_cases hkl : k < (mkOf X).length
              · have hkx : k < X.length := by omega
                obtain ⟨bm, om, rfl, hbm, a0, a1⟩ := CRow.at2 (x := fun m : Mk => .int .i64 (m.at_ : Int)) (y := fun m => .bool m.right) (HRM.out.below hbq) hkl
                obtain ⟨b5, o5, rfl, hb5, x0⟩ := Row.at_ (HRD.out.below hbq) hkx
                rw [HAT.out k hkl] at a0
                have hyb : -9223372036854775808 ≤ X.getD k 0 ∧ X.getD k 0 ≤ 9223372036854775807 := by
                  have := HSB.out (X.getD k 0) (by simp [List.getD, hkx]); omega
                clear a1 hbm hb5
                generalize X.getD k 0 = y at *
                have i0 : (0 : Int) ≤ (k : Int) := Int.natCast_nonneg _
                have i1 : (k : Int) < ((mkOf X).length : Int) := by omega
                have i2 : (k : Int) < (X.length : Int) := by omega
                go_wp2_with fail
                go_quiet (fail)
                go_wp2_with fail
                go_roundw
                case rel => exact ⟨k + 1, by omega, by go_num, below_drewN hbq _⟩
                case measure => simp [intOf]; omega
              · go_wp2_with fail
                go_ret
                exact ⟨rfl, bstep hbt hbq⟩
    · have HK := Lib.hid (show (mkOf (starts s.data.toList)).take k = mkOf (starts s.data.toList) ∧ k = (mkOf (starts s.data.toList)).length by
        rw [HMO.out]; exact ⟨List.take_of_length_le (by rw [HMO.out]; omega), by omega⟩)
      rw [HK.out.1] at hown
      rw [HK.out.2] at hown
      have hr1 := HR.out.later hbel
      have HSL := Lib.hid (starts_len_eq s.data.toList)
      replace hown := own_mono hown hb1.size
      replace hbel := bstep hb1 hbel
      clear HR HRD HMO hb1 HK hlc hsl hs1 hk hk6 HS0 HSL
      go_wp2_with fail
      clear hlt
      go_loopw [8, 10, 11, 12] (fun m nw st i wq => ∃ (j : Nat) (t : ByteArray), j ≤ cs.length ∧ j ≤ 8 ∧ i = .int .i64 j ∧ nw = .string t ∧ t.size ≤ 100 + 6 * j ∧ Row .i64 wq st (starts t.data.toList) ∧ wq.ownsRow w.heap.size 30 2 m (mkOf (starts t.data.toList)).length (cellsOf mkc (mkOf (starts t.data.toList))) ∧ Below w.heap.size w wq) (fun _ _ _ i _ => cs.length - (intOf i).toNat)
      case atStart => exact ⟨0, s, Nat.zero_le _, by omega, rfl, rfl, by omega, hr1, hown, hbel⟩
      case round =>
        obtain ⟨j, t, hj, hj8, rfl, rfl, htz, hrt, hownt, hbt⟩ := hrel
        have ht6 : t.size ≤ 148 := by omega
        have hlt0 : t.data.toList.length = t.size := by simp
        have hsl := starts_len t.data.toList
        by_cases hjl : j < cs.length
        · by_cases hj2 : j < 8
          · obtain ⟨b0, o0, rfl, hab, hcell⟩ := HRC.out (by omega)
            obtain ⟨u0', u1', u2', c0, c1, c2, hx⟩ := hcell j cs[j] (List.getElem?_eq_getElem hjl)
            clear hcell c1
            obtain ⟨rfl, -, hput, hpx, -⟩ := hx
            rw [← hbt.cell (p := ⟨b0, _, none⟩) hab] at c0 c2
            replace hput := hput.later hbt
            have hab2 : b0 < wr.heap.size := Nat.lt_of_lt_of_le hab hbt.size
            generalize cs[j].p = xp at *
            generalize cs[j].put = xput at *
            have P1 := Lib.hid (fun W => picked_any xp ((t.size : Int) + 1) W hpx (by omega) (by omega))
            have m1 := Int.emod_nonneg xp (show ((t.size : Int) + 1) ≠ 0 by omega)
            have m2 := Int.emod_lt_of_pos xp (show (0 : Int) < (t.size : Int) + 1 by omega)
            generalize xp % ((t.size : Int) + 1) = y1 at *
            obtain ⟨p, rfl⟩ : ∃ n : Nat, y1 = (n : Int) := ⟨y1.toNat, by omega⟩
            have hp : p ≤ t.size := by omega
            clear m1 m2 hpx
            have LN := Lib.hid (fun W v (h : Row .i64 W v (starts t.data.toList)) => line_any v (starts t.data.toList) p W h (asc_starts t (by omega)) (by omega) (starts_sorted _))
            rw [atMost_starts t.data.toList p (by omega)] at LN
            have e1 : ((((lnsL (t.data.toList.take p) + 1 : Nat) : Int)) - 1) = (lnsL (t.data.toList.take p) : Int) := by omega
            rw [e1] at LN
            clear e1
            have SA := Lib.hid (start_at t.data.toList p (by omega))
            obtain ⟨A5, cp5, hv5, hlc5, hc5, hwf5, hrd5⟩ := id hrt
            subst hv5
            unfold maxLen at hc5
            have HRT := Lib.hid hrt
            have HOW := Lib.hid hownt
            clear hrt hownt hwf5 hrd5
            go_wp2_with fail
            refine (P1.out _).mono ?_
            rintro e w' ⟨rfl, rfl⟩
            clear P1
            go_wp2_with (at_builtin; refine wpList_copyInts rfl (.tmp 78) _ rfl 3 .i64 _ 8 Try.underlying22 int_info rfl _ (starts t.data.toList) rfl HRT.out (by omega) (by omega) ?_)
            intro v2 w2 _ hr2 hb2
            go_wp2_with fail
            refine (LN.out _ _ hr2).mono ?_
            rintro e w3 ⟨rfl, hb3⟩
            have hb23 := hb2.trans (hb3.mono hb2.size)
            replace HRT := Lib.hid (HRT.out.later hb23)
            replace HOW := Lib.hid (own_below HOW.out hb23)
            replace hbt := bstep hbt hb23
            rw [← hb23.cell (p := ⟨b0, _, none⟩) hab2] at c2
            replace hput := hput.later hb23
            clear c0 hr2 hb2 hb3 LN
            have hab3 := Nat.lt_of_lt_of_le hab2 hb23.size
            clear hb23 hab2
            obtain ⟨A', c', hv, -, -, -, hrd⟩ := HRT.out
            injection hv with hv1 hv2 hv3
            subst hv1; subst hv3
            obtain ⟨b5, o5, rfl, hb5, hcell5⟩ := Row.at_ hrd SA.out.2
            rw [SA.out.1] at hcell5
            have hnl := SA.out.2
            have c1 := col_le (t.data.toList.take p)
            rw [List.length_take, hlt0] at c1
            clear SA hrd hv2
            generalize lnsL (t.data.toList.take p) = n at *
            generalize colL (t.data.toList.take p) = q at *
            by_cases hq : q = 0
            · subst hq
              have e5 : (p : Int) - ((0 : Nat) : Int) = p := by omega
              rw [e5] at hcell5
              clear e5
              go_wp2_with fail
              go_roundw
              case rel => exact ⟨j + 1, t, by omega, by omega, by go_num, rfl, by omega, HRT.out, HOW.out, hbt⟩
              case measure => simp [intOf]; omega
            · have e5 : ((p : Int) - (q : Int) == (p : Int)) = false := beq_eq_false_iff_ne.2 (by omega)
              go_wp2_with fail
              refine (few_any u2' xput 6 _ hput (by omega) (by omega)).mono ?_
              rintro e w4 ⟨put, rfl, hpd, hb4⟩
              have hps : put.size ≤ 6 := by
                have : put.data.toList.length ≤ 6 := by rw [hpd]; simp; omega
                simpa using this
              have HPS := Lib.hid (put_starts t p put hp (fun b hb => by rw [hpd] at hb; exact ab_no _ b hb))
              have HPU := Lib.hid (mkOf_push (starts t.data.toList) p put (fun y hy => (starts_wfb t.data.toList (by omega) y hy).1))
              rw [← HPS.out] at HPU
              have HMZ := Lib.hid (show (mk t ⟨p, 0, put⟩).size = t.size + put.size by rw [mk_size t ⟨p, 0, put⟩ (by simpa using hp)]; rfl)
              have HLEN := Lib.hid (show (starts (mk t ⟨p, 0, put⟩).data.toList).length = (starts t.data.toList).length by rw [HPS.out, List.length_map])
              have HML := Lib.hid (mkOf_len (starts t.data.toList))
              have HUP := Lib.hid (fun v W (h : Row .i64 W v (starts t.data.toList)) => update_any v (starts t.data.toList) t.size ⟨p, 0, put⟩ W h (asc_starts t (by omega)) (by omega) (starts_wfb t.data.toList (by omega)) (starts_sorted _) (fun i => by have := starts_le t.data.toList i; omega) (by omega) (by simpa using hp) (by simp; omega))
              have HUS := Lib.hid (updated_starts t ⟨p, 0, put⟩ (by simpa using hp))
              have hokr : okr t.size [⟨p, 0, put⟩] := ⟨by simpa using hp, by simp; omega, trivial⟩
              have HMV := Lib.hid (fun v1 v2 base W (h1 : World.ownsRow W base 30 2 v1 (mkOf (starts t.data.toList)).length (cellsOf mkc (mkOf (starts t.data.toList)))) (h2 : EdRow W v2 [⟨p, 0, put⟩]) =>
                move_any t.size v1 v2 (mkOf (starts t.data.toList)) [⟨p, 0, put⟩] W base h1 h2 (by omega) (fun m hm => by
                  obtain ⟨k, hk, rfl⟩ := List.getElem_of_mem hm
                  have h1 := mkOf_at (starts t.data.toList) k hk (fun y hy => (starts_wfb t.data.toList (by omega) y hy).1)
                  have h2 := starts_le t.data.toList k
                  omega) (by rw [HML.out]; omega) (by simp) (fun e he => by simp at he; subst he; show put.size ≤ 600; omega) hokr)
              have HAP := Lib.hid (fun v W (h : EdRow W v [⟨p, 0, put⟩]) => apply_any t v [⟨p, 0, put⟩] W h (by omega) (by simp) (fun e he => by simp at he; subst he; show put.size ≤ 600; omega) hokr)
              have hk4 := bstep hbt hb4
              have HOW4 := own_below HOW.out hb4
              have HRT4 := HRT.out.later hb4
              clear hbt HOW HRT hput hb4 hpd c2 hcell5 hb5 hab3 hokr
              have T4 := Three.new w4 (.int .i64 (p : Int)) (.int .i64 0) (.string put) 37
              replace HOW4 := HOW4.alloc (.cells #[.int .i64 (p : Int), .int .i64 0, .string put] 37)
              replace HRT4 := HRT4.later ((Below.refl _ w4).alloc (Nat.le_refl _) (.cells #[.int .i64 (p : Int), .int .i64 0, .string put] 37))
              replace hk4 := hk4.alloc hk4.size (.cells #[.int .i64 (p : Int), .int .i64 0, .string put] 37)
              obtain ⟨A8, c8, hv8, hl8, hc8⟩ := own_slice HOW4
              subst hv8
              go_wp2_with fail
              generalize w4.alloc (.cells #[.int .i64 (p : Int), .int .i64 0, .string put] 37) = W at *
              generalize w4.heap.size = g at *
              have hml : (mkOf (starts t.data.toList)).length ≤ 60 := by rw [HML.out]; omega
              have hml2 : (mkOf (starts (mk t ⟨p, 0, put⟩).data.toList)).length = (mkOf (starts t.data.toList)).length := by rw [mkOf_len, HLEN.out, ← HML.out]
              have HML2 := Lib.hid hml2
              clear hml2
              have HOW5 := Lib.hid HOW4
              have HRT5 := Lib.hid HRT4
              have HK5 := Lib.hid hk4
              clear HOW4 HRT4 hk4
              go_cut [17, 18] (fun m z wc => z = .int .i64 0 ∧ wc.ownsRow W.heap.size 30 2 m (mkOf (starts t.data.toList)).length (cellsOf mkc (mkOf (starts (mk t ⟨p, 0, put⟩).data.toList))) ∧ Below W.heap.size W wc)
              case first =>
                refine wp_region_pf [([0, 1, 2, 4], [(3, 5)], [6]), ([7, 8, 9, 10, 11], [], [])] (fun w' => Below W.heap.size W w') (by kernel_rfl) (by kernel_rfl) (fun _ _ h1 h2 => bstep h1 h2) (Below.refl _ _) ?_
                intro ι F hne hF W0 hW0 _
                obtain ⟨t9, t0, t1, t2⟩ := T4
                have x0F : ∀ i, (F i).cell? ⟨g, 0, none⟩ = some (.int .i64 (p : Int)) := fun i => ((hF i).cell (p := ⟨g, 0, none⟩) t9).trans t0
                have x1F : ∀ i, (F i).cell? ⟨g, 1, none⟩ = some (.int .i64 0) := fun i => ((hF i).cell (p := ⟨g, 1, none⟩) t9).trans t1
                have x2F : ∀ i, (F i).cell? ⟨g, 2, none⟩ = some (.string put) := fun i => ((hF i).cell (p := ⟨g, 2, none⟩) t9).trans t2
                refine wpPf_cons ?_
                simp only [pickOps, List.getElem?_cons_succ, List.getElem?_cons_zero]
                repeat (refine wpB_step (fun K hK => ?_); go_simp; first | (refine hK _ ?_; clear hK K) | (apply Exists.intro; refine ⟨fun _ => ?_, hK _ ?_⟩; (fail); clear hK K))
                refine wpB_nil ?_
                intro w2 hw2 hI2
                clear x0F x1F x2F t0 t1 t2 t9 hW0 hF
                refine wpFk_cons ?_ ?_
                · simp only [pickOps, List.getElem?_cons_succ, List.getElem?_cons_zero]
                  refine wpRB_copy rfl (.tmp 113) _ rfl 30 _ 2 16 Try.underlying28 mark_info rfl (by decide) A8 _ c8 _ rfl (Reads.of_own (own_below HOW5.out hI2)) (cellsOf_oneCell mkc_one _) (by omega) (by omega) ?_
                  intro v3 w3 ho3 hb3
                  refine ⟨bstep hI2 hb3, ?_⟩
                  intro w4 hw4 hI4
                  have ho4 := own_below ho3 hw4
                  obtain ⟨A3, c3, hv3, hl3, hc3⟩ := own_slice ho4
                  subst hv3
                  (refine wpRB_step (fun K hK => ?_); go_simp; refine hK _ _ ⟨hI4.alloc hI4.size _, ?_⟩; clear hK K)
                  intro w5 hw5 hI5
                  have ho5 := own_below (ho4.alloc (.cells #[.int .i64 (p : Int), .int .i64 0, .string put] 37)) hw5
                  have he5 := (EdRow.lit w4 37 [⟨p, 0, put⟩] (show 1 ≤ maxLen by decide)).later hw5
                  refine wpRB_nil ?_
                  refine wpFk_nil ?_
                  refine wpRB_step (fun K hK => ?_)
                  go_simp
                  refine (HMV.out _ _ _ _ ho5 he5).mono ?_
                  rintro e w6 ⟨v6, rfl, ho6, hb6⟩
                  refine ⟨_, rfl, hK _ _ ⟨bstep hI5 hb6, ?_⟩⟩
                  clear hK K
                  intro w7 hw7 hI7
                  have ho7 := own_below ho6 hw7
                  rw [← HPU.out] at ho7
                  refine wpRB_nil ?_
                  refine wpPf_cons ?_
                  simp only [pickOps, List.getElem?_cons_succ, List.getElem?_cons_zero]
                  repeat (refine wpB_step (fun K hK => ?_); go_simp; first | (refine hK _ ?_; clear hK K) | (apply Exists.intro; refine ⟨fun _ => ?_, hK _ ?_⟩; (fail); clear hK K))
                  refine wpB_nil ?_
                  intro w8 hw8 hI8
                  have ho8 := own_mono (own_below ho7 hw8) (bstep hI5 (Below.refl _ _)).size
                  refine wpFk_nil ?_
                  refine wpRB_nil ?_
                  refine wpPf_nil ?_
                  go_wp2_with fail
                  go_meet
                  exact ⟨rfl, ho8, hI8⟩
                · simp only [pickOps, List.getElem?_cons_succ, List.getElem?_cons_zero]
                  (refine wpRB_step (fun K hK => ?_); go_simp; refine hK _ _ ⟨hI2.alloc hI2.size _, ?_⟩; clear hK K)
                  intro w3 hw3 hI3
                  have he3 := (EdRow.lit w2 37 [⟨p, 0, put⟩] (show 1 ≤ maxLen by decide)).later hw3
                  refine wpRB_copy rfl (.tmp 113) _ rfl 30 _ 2 16 Try.underlying28 mark_info rfl (by decide) A8 _ c8 _ rfl (Reads.of_own (own_below HOW5.out hI3)) (cellsOf_oneCell mkc_one _) (by omega) (by omega) ?_
                  intro v3 w4 ho4 hb4
                  refine ⟨bstep hI3 hb4, ?_⟩
                  intro w5 hw5 hI5
                  have ho5 := own_below ho4 hw5
                  have he5 := (he3.later hb4).later hw5
                  refine wpRB_nil ?_
                  refine wpFk_nil ?_
                  refine wpRB_step (fun K hK => ?_)
                  go_simp
                  refine (HMV.out _ _ _ _ ho5 he5).mono ?_
                  rintro e w6 ⟨v6, rfl, ho6, hb6⟩
                  refine ⟨_, rfl, hK _ _ ⟨bstep hI5 hb6, ?_⟩⟩
                  clear hK K
                  intro w7 hw7 hI7
                  have ho7 := own_below ho6 hw7
                  rw [← HPU.out] at ho7
                  refine wpRB_nil ?_
                  refine wpPf_cons ?_
                  simp only [pickOps, List.getElem?_cons_succ, List.getElem?_cons_zero]
                  repeat (refine wpB_step (fun K hK => ?_); go_simp; first | (refine hK _ ?_; clear hK K) | (apply Exists.intro; refine ⟨fun _ => ?_, hK _ ?_⟩; (fail); clear hK K))
                  refine wpB_nil ?_
                  intro w8 hw8 hI8
                  have ho8 := own_mono (own_below ho7 hw8) (bstep hI5 (Below.refl _ _)).size
                  refine wpFk_nil ?_
                  refine wpRB_nil ?_
                  refine wpPf_nil ?_
                  go_wp2_with fail
                  go_meet
                  exact ⟨rfl, ho8, hI8⟩
              case rest =>
                obtain ⟨rfl, hom, hbm⟩ := hcut
                have hrt1 := HRT5.out.later hbm
                have T5 := T4.later hbm
                have kk := bstep HK5.out hbm
                replace hom := own_mono hom HK5.out.size
                obtain ⟨A7, c7, hv7, hl7, hc7⟩ := own_slice hom
                subst hv7
                have HOM := Lib.hid hom
                have HRT6 := Lib.hid hrt1
                have HKK := Lib.hid kk
                clear hom hrt1 kk hbm HK5 HRT5 HOW5 T4 HMV
                go_wp2_with fail
                clear W
                generalize wc = W at *
                go_cut [19, 20] (fun m z wc => z = .int .i64 0 ∧ Row .i64 wc m (starts (mk t ⟨p, 0, put⟩).data.toList) ∧ Below W.heap.size W wc)
                case first =>
                  refine wp_region_ph [([0, 2, 3, 4], [1, 5]), ([6, 7, 8, 9, 10], [])] (fun w' => Below W.heap.size W w') (by kernel_rfl) (by kernel_rfl) (fun _ _ h1 h2 => bstep h1 h2) (Below.refl _ _) ?_
                  intro ι F hne hF W0 hW0 _
                  obtain ⟨t9, t0, t1, t2⟩ := T5
                  have x0F : ∀ i, (F i).cell? ⟨g, 0, none⟩ = some (.int .i64 (p : Int)) := fun i => ((hF i).cell (p := ⟨g, 0, none⟩) t9).trans t0
                  have x1F : ∀ i, (F i).cell? ⟨g, 1, none⟩ = some (.int .i64 0) := fun i => ((hF i).cell (p := ⟨g, 1, none⟩) t9).trans t1
                  have x2F : ∀ i, (F i).cell? ⟨g, 2, none⟩ = some (.string put) := fun i => ((hF i).cell (p := ⟨g, 2, none⟩) t9).trans t2
                  (refine wpPh_cons ?_; simp only [pickOps, List.getElem?_cons_succ, List.getElem?_cons_zero])
                  repeat (refine wpB_step (fun K hK => ?_); go_simp; first | (refine hK _ ?_; clear hK K) | (apply Exists.intro; refine ⟨fun _ => ?_, hK _ ?_⟩; (fail); clear hK K))
                  refine wpB_nil ?_
                  intro w2 hw2 hI2
                  clear x0F x1F x2F t0 t1 t2 t9 hW0 hF
                  refine wpRB_copyInts rfl (.tmp 121) _ rfl 3 .i64 _ 8 Try.underlying22 int_info rfl _ (starts t.data.toList) rfl (HRT6.out.later hI2) (by omega) (by omega) ?_
                  intro v3 w3 _ hr3 hb3
                  refine ⟨bstep hI2 hb3, ?_⟩
                  intro w4 hw4 hI4
                  replace hr3 := hr3.later hw4
                  refine wpRB_step (fun K hK => ?_)
                  go_simp
                  refine (HUP.out _ _ hr3).mono ?_
                  rintro e w5 ⟨v5, rfl, hr5, hb5⟩
                  refine ⟨_, rfl, hK _ _ ⟨bstep hI4 hb5, ?_⟩⟩
                  clear hK K
                  intro w6 hw6 hI6
                  replace hr5 := hr5.later hw6
                  rw [HUS.out] at hr5
                  refine wpRB_nil ?_
                  (refine wpPh_cons ?_; simp only [pickOps, List.getElem?_cons_succ, List.getElem?_cons_zero])
                  repeat (refine wpB_step (fun K hK => ?_); go_simp; first | (refine hK _ ?_; clear hK K) | (apply Exists.intro; refine ⟨fun _ => ?_, hK _ ?_⟩; (fail); clear hK K))
                  refine wpB_nil ?_
                  intro w7 hw7 hI7
                  replace hr5 := hr5.later hw7
                  refine wpRB_nil ?_
                  refine wpPh_nil ?_
                  go_wp2_with fail
                  go_meet
                  exact ⟨rfl, hr5, hI7⟩
                case rest =>
                  obtain ⟨rfl, hru, hbm⟩ := hcut
                  have hom := own_below HOM.out hbm
                  have T6 := T5.later hbm
                  have kk := bstep HKK.out hbm
                  clear hbm HKK HOM HRT6 T5 HUP
                  have he6 := EdRow.lit wc 37 [⟨p, 0, put⟩] (show 1 ≤ maxLen by decide)
                  obtain ⟨t9, t0, t1, t2⟩ := T6
                  go_wp2_with fail
                  refine (HAP.out _ _ he6).mono ?_
                  rintro e w8 ⟨rfl, hb8⟩
                  have hb9 := bstep_alloc hb8
                  replace hom := own_below hom hb9
                  replace hru := hru.later hb9
                  replace kk := bstep kk hb9
                  clear t0 t1 t2 t9 he6 hb8 hb9
                  have hrn : rn t [⟨p, 0, put⟩] = mk t ⟨p, 0, put⟩ := rfl
                  rw [hrn]
                  clear hrn
                  have HRU := Lib.hid hru
                  obtain ⟨A6, c6, hv6, hl6, hc6, -, -⟩ := hru
                  subst hv6
                  have HOM := Lib.hid hom
                  clear hom
                  have HMZ2 := Lib.hid (show (mk t ⟨p, 0, put⟩).size ≤ 100 + 6 * (j + 1) by rw [HMZ.out]; omega)
                  rw [HLEN.out] at hl6 ⊢
                  generalize hT : mk t ⟨p, 0, put⟩ = t' at *
                  go_wp2_with fail
                  go_roundw
                  case rel => exact ⟨j + 1, t', by omega, by omega, by go_num, rfl, HMZ2.out, by rw [← HLEN.out]; exact HRU.out, by rw [HML2.out]; exact HOM.out, kk⟩
                  case measure => simp [intOf]; omega
          · obtain ⟨A5, cp5, hv5, hlc5, hc5, hwf5, hrd5⟩ := id hrt
            subst hv5
            unfold maxLen at hc5
            obtain ⟨A8, c8, hv8, hl8, hc8, hrm⟩ := CRow.of_own mkc_len hownt
            subst hv8
            have HML := Lib.hid (mkOf_len (starts t.data.toList))
            have hmle : (mkOf (starts t.data.toList)).length ≤ (starts t.data.toList).length := by rw [HML.out]; omega
            have hml6 : (mkOf (starts t.data.toList)).length ≤ 60 := by rw [HML.out]; omega
            have HAT := Lib.hid (fun k (h : k < (mkOf (starts t.data.toList)).length) => mkOf_at (starts t.data.toList) k h (fun y hy => (starts_wfb t.data.toList (by omega) y hy).1))
            have HRM := Lib.hid hrm
            have HRD := Lib.hid hrd5
            have HOW := Lib.hid hownt
            have HRT := Lib.hid hrt
            have HSB := Lib.hid (starts_wfb t.data.toList (by omega))
            clear hrm hrd5 hownt hrt hwf5
            go_wp2_with fail
            clear hj2
            generalize hX : starts t.data.toList = X at *
            clear hX
            go_loopw [23] (fun i wq => ∃ k : Nat, k ≤ (mkOf X).length ∧ i = .int .i64 k ∧ Below wr.heap.size wr wq) (fun i _ => (mkOf X).length - (intOf i).toNat)
            case atStart => exact ⟨0, Nat.zero_le _, rfl, Below.refl _ _⟩
            case round =>
              obtain ⟨k, hk, rfl, hbq⟩ := hrel
              by_cases hkl : k < (mkOf X).length
              · have hkx : k < X.length := by omega
                obtain ⟨bm, om, rfl, hbm, a0, a1⟩ := CRow.at2 (x := fun m : Mk => .int .i64 (m.at_ : Int)) (y := fun m => .bool m.right) (HRM.out.below hbq) hkl
                obtain ⟨b5, o5, rfl, hb5, x0⟩ := Row.at_ (HRD.out.below hbq) hkx
                rw [HAT.out k hkl] at a0
                have hyb : -9223372036854775808 ≤ X.getD k 0 ∧ X.getD k 0 ≤ 9223372036854775807 := by
                  have := HSB.out (X.getD k 0) (by simp [List.getD, hkx]); omega
                clear a1 hbm hb5
                generalize X.getD k 0 = y at *
                have i0 : (0 : Int) ≤ (k : Int) := Int.natCast_nonneg _
                have i1 : (k : Int) < ((mkOf X).length : Int) := by omega
                have i2 : (k : Int) < (X.length : Int) := by omega
                go_wp2_with fail
                go_quiet (fail)
                go_wp2_with fail
                go_roundw
                case rel => exact ⟨k + 1, by omega, by go_num, below_drewN hbq _⟩
                case measure => simp [intOf]; omega
              · go_wp2_with fail
                go_ret
                exact ⟨rfl, bstep hbt hbq⟩
        · obtain ⟨A5, cp5, hv5, hlc5, hc5, hwf5, hrd5⟩ := id hrt
          subst hv5
          unfold maxLen at hc5
          obtain ⟨A8, c8, hv8, hl8, hc8, hrm⟩ := CRow.of_own mkc_len hownt
          subst hv8
          have HML := Lib.hid (mkOf_len (starts t.data.toList))
          have hmle : (mkOf (starts t.data.toList)).length ≤ (starts t.data.toList).length := by rw [HML.out]; omega
          have hml6 : (mkOf (starts t.data.toList)).length ≤ 60 := by rw [HML.out]; omega
          have HAT := Lib.hid (fun k (h : k < (mkOf (starts t.data.toList)).length) => mkOf_at (starts t.data.toList) k h (fun y hy => (starts_wfb t.data.toList (by omega) y hy).1))
          have HRM := Lib.hid hrm
          have HRD := Lib.hid hrd5
          have HOW := Lib.hid hownt
          have HRT := Lib.hid hrt
          have HSB := Lib.hid (starts_wfb t.data.toList (by omega))
          clear hrm hrd5 hownt hrt hwf5
          go_wp2_with fail
          clear hjl
          generalize hX : starts t.data.toList = X at *
          clear hX
          go_loopw [23] (fun i wq => ∃ k : Nat, k ≤ (mkOf X).length ∧ i = .int .i64 k ∧ Below wr.heap.size wr wq) (fun i _ => (mkOf X).length - (intOf i).toNat)
          case atStart => exact ⟨0, Nat.zero_le _, rfl, Below.refl _ _⟩
          case round =>
            obtain ⟨k, hk, rfl, hbq⟩ := hrel
            by_cases hkl : k < (mkOf X).length
            · have hkx : k < X.length := by omega
              obtain ⟨bm, om, rfl, hbm, a0, a1⟩ := CRow.at2 (x := fun m : Mk => .int .i64 (m.at_ : Int)) (y := fun m => .bool m.right) (HRM.out.below hbq) hkl
              obtain ⟨b5, o5, rfl, hb5, x0⟩ := Row.at_ (HRD.out.below hbq) hkx
              rw [HAT.out k hkl] at a0
              have hyb : -9223372036854775808 ≤ X.getD k 0 ∧ X.getD k 0 ≤ 9223372036854775807 := by
                have := HSB.out (X.getD k 0) (by simp [List.getD, hkx]); omega
              clear a1 hbm hb5
              generalize X.getD k 0 = y at *
              have i0 : (0 : Int) ≤ (k : Int) := Int.natCast_nonneg _
              have i1 : (k : Int) < ((mkOf X).length : Int) := by omega
              have i2 : (k : Int) < (X.length : Int) := by omega
              go_wp2_with fail
              go_quiet (fail)
              go_wp2_with fail
              go_roundw
              case rel => exact ⟨k + 1, by omega, by go_num, below_drewN hbq _⟩
              case measure => simp [intOf]; omega
            · go_wp2_with fail
              go_ret
              exact ⟨rfl, bstep hbt hbq⟩
end Go.Proofs.Ytcgcakmpjeodfaa
