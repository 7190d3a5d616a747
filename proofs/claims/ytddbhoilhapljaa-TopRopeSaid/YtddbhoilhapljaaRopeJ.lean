/-
  The walk of rope.Join.
-/
import Derived.Test.YtddbhoilhapljaaRopeB
namespace Go.Proofs.Ytddbhoilhapljaa
open Go.RowKit
set_option linter.unusedVariables false

def MadeJ (a b : T) (w : World) (e : Ending) (w' : World) : Prop := ∃ g t, e = .returned (.pointer (some ⟨g, 0, none⟩)) ∧ RT w' g t ∧ Jn a b t ∧ Below w.heap.size w w'
theorem MadeB.jn {a b : T} {w w' : World} {e : Ending} (h : MadeB a b w e w') : MadeJ a b w e w' := by
  obtain ⟨g, t, h1, h2, ⟨q1, q2, q3, q4, _⟩, h4⟩ := h
  exact ⟨g, t, h1, h2, ⟨q1, q2, q3, q4⟩, h4⟩
theorem RT.lf {w : World} {g : Nat} {s : ByteArray} (h : RT w g (.leaf s)) : w.cell? ⟨g, 0, none⟩ = some (.string s) ∧ w.cell? ⟨g, 1, none⟩ = some (.pointer none) ∧ w.cell? ⟨g, 2, none⟩ = some (.int .i64 1) := by
  have h' : Blk w g 142 (rcells s none 1 s.data.toList) := h
  exact ⟨by rw [h'.cell]; rfl, by rw [h'.cell]; rfl, by rw [h'.cell]; rfl⟩
theorem leaf_two (s t : ByteArray) : (T.leaf (s ++ t)).tx = s.data.toList ++ t.data.toList := append_data s t
set_option maxRecDepth 100000 in
set_option maxHeartbeats 2000000 in
theorem join_small (ga gb : Nat) (s t : ByteArray) (w : World) (ha : RT w ga (.leaf s)) (hb : RT w gb (.leaf t)) (oa : (T.leaf s).ok) (ob : (T.leaf t).ok) (hsm : s.size + t.size ≤ 8) :
    Calls Try.prog 108 #[.pointer (some ⟨ga, 0, none⟩), .pointer (some ⟨gb, 0, none⟩)] w (MadeJ (.leaf s) (.leaf t) w) := by
  obtain ⟨a0, a1, a2⟩ := ha.lf
  obtain ⟨b0, b1, b2⟩ := hb.lf
  have hga := ha.lt
  have hgb := hb.lt
  have oa' : 0 < s.size := oa
  have hsi : (s.size : Int) + (t.size : Int) ≤ 8 := by omega
  have hml : ¬ 9223372036854775807 < s.size + t.size := by omega
  have hst : (s ++ t).size ≤ 600 := by rw [ByteArray.size_append]; omega
  have HJ : Hid (Jn (.leaf s) (.leaf t) (.leaf (s ++ t))) := Lib.hid ⟨show 0 < (s ++ t).size by rw [ByteArray.size_append]; omega, leaf_two s t, by simp [T.dp], by simp [T.dp]⟩
  clear ha hb oa ob
  go_enter Try.func108, Try.ntmps108
  go_wp2_with fail
  go_quiet (fail)
  go_wp2_with fail
  refine wp_region_ph [([0, 1, 2, 3, 4, 5, 6, 7, 8], [9]), ([10], [])] (fun w' => Below w.heap.size w w') (by kernel_rfl) (by kernel_rfl) (fun _ _ h1 h2 => bstep h1 h2) (by repeat' (first | exact Below.refl _ _ | apply below_drewN)) ?_
  intro ι F hne hF W0 hW0 hI0
  have s1F : ∀ i, (F i).cell? ⟨ga, 0, none⟩ = some (.string s) := fun i => ((hF i).cell (p := ⟨ga, 0, none⟩) hga).trans a0
  have s2F : ∀ i, (F i).cell? ⟨gb, 0, none⟩ = some (.string t) := fun i => ((hF i).cell (p := ⟨gb, 0, none⟩) hgb).trans b0
  (refine wpPh_cons ?_; simp only [pickOps, List.getElem?_cons_succ, List.getElem?_cons_zero])
  repeat (refine wpB_step (fun K hK => ?_); go_simp; first | (refine hK _ ?_; clear hK K) | (apply Exists.intro; refine ⟨fun _ => ?_, hK _ ?_⟩; (fail); clear hK K))
  refine wpB_nil ?_
  intro w3 hw3 hI3
  clear s1F s2F
  refine wpRB_step (fun K hK => ?_)
  go_simp
  refine (leaf_any (s ++ t) w3 hst).mono ?_
  rintro e w4 ⟨g4, rfl, hr4, hb4⟩
  refine ⟨_, rfl, hK _ _ ⟨bstep hI3 hb4, ?_⟩⟩
  clear hK K
  intro w5 hw5 hI5
  have hr5 := hr4.below hw5
  clear hr4 hb4 hw5 hw3 hI3
  refine wpRB_nil ?_
  (refine wpPh_cons ?_; simp only [pickOps, List.getElem?_cons_succ, List.getElem?_cons_zero])
  repeat (refine wpB_step (fun K hK => ?_); go_simp; first | (refine hK _ ?_; clear hK K) | (apply Exists.intro; refine ⟨fun _ => ?_, hK _ ?_⟩; (fail); clear hK K))
  refine wpB_nil ?_
  intro w10 hw10 hI10
  have HR10 := Lib.hid (hr5.below hw10)
  have HI10 := Lib.hid hI10
  clear hr5 hw10 hI5
  refine wpRB_nil ?_
  refine wpPh_nil ?_
  clear hF hne F hI0 hW0 hI10
  go_wp2_with fail
  go_ret
  exact ⟨g4, _, rfl, HR10.out, HJ.out, HI10.out⟩
set_option maxRecDepth 100000 in
set_option maxHeartbeats 4000000 in
theorem join_flat (ga gb : Nat) (a b : T) (w : World) (ha : RT w ga a) (hb : RT w gb b) (oa : a.ok) (ob : b.ok) (hl : a.tx.length + b.tx.length ≤ 600) (h1 : a.dp ≤ b.dp + 1) (h2 : b.dp ≤ a.dp + 1) :
    Calls Try.prog 108 #[.pointer (some ⟨ga, 0, none⟩), .pointer (some ⟨gb, 0, none⟩)] w (MadeJ a b w) := by
  cases a with
  | leaf s =>
    cases b with
    | leaf t =>
      by_cases hsm : s.size + t.size ≤ 8
      · exact join_small ga gb s t w ha hb oa ob hsm
      · obtain ⟨a0, a1, a2⟩ := ha.lf
        obtain ⟨b0, b1, b2⟩ := hb.lf
        clear a2 b2
        have hss : s.size + t.size ≤ 600 := by have h9 := hl; simp only [T.tx] at h9; simpa using h9
        have hsi : ¬ (s.size : Int) + (t.size : Int) ≤ 8 := by omega
        have hsd : decide ((s.size : Int) + (t.size : Int) ≤ 8) = false := by rw [decide_eq_false_iff_not]; exact hsi
        have HRA := Lib.hid ha
        have HRB := Lib.hid hb
        have c1 := ha.c2
        have c2 := hb.c2
        have da := T.dp600 _ oa (by omega)
        have db := T.dp600 _ ob (by omega)
        have HJ := Lib.hid (jn_flat _ _ oa ob h1 h2)
        have hla : (T.leaf s).tx.length ≤ 600 := by omega
        have hlb : (T.leaf t).tx.length ≤ 600 := by omega
        have HLA := Lib.hid hla
        have HLB := Lib.hid hlb
        clear ha hb oa ob hl hla hlb
        generalize hda : T.dp (T.leaf s) = dpa at *
        generalize hdb : T.dp (T.leaf t) = dpb at *
        have HDA := Lib.hid hda
        have HDB := Lib.hid hdb
        have hd1 : decide ((dpb : Int) + 1 < (dpa : Int)) = false := by rw [decide_eq_false_iff_not]; omega
        have hd2 : decide ((dpa : Int) + 1 < (dpb : Int)) = false := by rw [decide_eq_false_iff_not]; omega
        clear hda hdb
        go_enter Try.func108, Try.ntmps108
        go_wp2_with fail
        go_quiet (fail)
        go_wp2_with fail
        go_quiet (fail)
        go_wp2_with fail
        go_quiet (fail)
        go_wp2_with fail
        refine (node_any ga gb (T.leaf s) (T.leaf t) _ (HRA.out.below (by repeat' (first | exact Below.refl _ _ | apply below_drewN))) (HRB.out.below (by repeat' (first | exact Below.refl _ _ | apply below_drewN))) HLA.out HLB.out (by rw [HDA.out]; omega) (by rw [HDB.out]; omega)).mono ?_
        rintro e w1 ⟨g, rfl, hr, hb⟩
        have HR := Lib.hid hr
        have HB := Lib.hid (bstep (show Below w.heap.size w _ from by repeat' (first | exact Below.refl _ _ | apply below_drewN)) hb)
        clear hr hb
        go_wp2_with fail
        go_ret
        exact ⟨g, _, rfl, HR.out, HJ.out, HB.out⟩
    | node b0 b1 =>
      obtain ⟨a0, a1, a2⟩ := ha.lf
      obtain ⟨q2, g0, g1, s1, s2, s3, hgm, hq2, hx0, hx1⟩ := hb.nd
      clear hx0 hx1 a2
      have HRA := Lib.hid ha
      have HRB := Lib.hid hb
      have c1 := ha.c2
      have c2 := hb.c2
      have da := T.dp600 _ oa (by omega)
      have db := T.dp600 _ ob (by omega)
      have HJ := Lib.hid (jn_flat _ _ oa ob h1 h2)
      have hla : (T.leaf s).tx.length ≤ 600 := by omega
      have hlb : (T.node b0 b1).tx.length ≤ 600 := by omega
      have HLA := Lib.hid hla
      have HLB := Lib.hid hlb
      clear ha hb oa ob hl hla hlb
      generalize hda : T.dp (T.leaf s) = dpa at *
      generalize hdb : T.dp (T.node b0 b1) = dpb at *
      have HDA := Lib.hid hda
      have HDB := Lib.hid hdb
      have hd1 : decide ((dpb : Int) + 1 < (dpa : Int)) = false := by rw [decide_eq_false_iff_not]; omega
      have hd2 : decide ((dpa : Int) + 1 < (dpb : Int)) = false := by rw [decide_eq_false_iff_not]; omega
      clear hda hdb
      go_enter Try.func108, Try.ntmps108
      go_wp2_with fail
      go_quiet (fail)
      go_wp2_with fail
      go_quiet (fail)
      go_wp2_with fail
      go_quiet (fail)
      go_wp2_with fail
      refine (node_any ga gb (T.leaf s) (T.node b0 b1) _ (HRA.out.below (by repeat' (first | exact Below.refl _ _ | apply below_drewN))) (HRB.out.below (by repeat' (first | exact Below.refl _ _ | apply below_drewN))) HLA.out HLB.out (by rw [HDA.out]; omega) (by rw [HDB.out]; omega)).mono ?_
      rintro e w1 ⟨g, rfl, hr, hb⟩
      have HR := Lib.hid hr
      have HB := Lib.hid (bstep (show Below w.heap.size w _ from by repeat' (first | exact Below.refl _ _ | apply below_drewN)) hb)
      clear hr hb
      go_wp2_with fail
      go_ret
      exact ⟨g, _, rfl, HR.out, HJ.out, HB.out⟩
  | node x y =>
    obtain ⟨q2, g0, g1, s1, s2, s3, hgm, hq2, hx0, hx1⟩ := ha.nd
    clear hx0 hx1
    have HRA := Lib.hid ha
    have HRB := Lib.hid hb
    have c1 := ha.c2
    have c2 := hb.c2
    have da := T.dp600 _ oa (by omega)
    have db := T.dp600 _ ob (by omega)
    have HJ := Lib.hid (jn_flat _ _ oa ob h1 h2)
    have hla : (T.node x y).tx.length ≤ 600 := by omega
    have hlb : b.tx.length ≤ 600 := by omega
    have HLA := Lib.hid hla
    have HLB := Lib.hid hlb
    clear ha hb oa ob hl hla hlb
    generalize hda : T.dp (T.node x y) = dpa at *
    generalize hdb : T.dp b = dpb at *
    have HDA := Lib.hid hda
    have HDB := Lib.hid hdb
    have hd1 : decide ((dpb : Int) + 1 < (dpa : Int)) = false := by rw [decide_eq_false_iff_not]; omega
    have hd2 : decide ((dpa : Int) + 1 < (dpb : Int)) = false := by rw [decide_eq_false_iff_not]; omega
    clear hda hdb
    go_enter Try.func108, Try.ntmps108
    go_wp2_with fail
    go_quiet (fail)
    go_wp2_with fail
    go_quiet (fail)
    go_wp2_with fail
    go_quiet (fail)
    go_wp2_with fail
    refine (node_any ga gb (T.node x y) b _ (HRA.out.below (by repeat' (first | exact Below.refl _ _ | apply below_drewN))) (HRB.out.below (by repeat' (first | exact Below.refl _ _ | apply below_drewN))) HLA.out HLB.out (by rw [HDA.out]; omega) (by rw [HDB.out]; omega)).mono ?_
    rintro e w1 ⟨g, rfl, hr, hb⟩
    have HR := Lib.hid hr
    have HB := Lib.hid (bstep (show Below w.heap.size w _ from by repeat' (first | exact Below.refl _ _ | apply below_drewN)) hb)
    clear hr hb
    go_wp2_with fail
    go_ret
    exact ⟨g, _, rfl, HR.out, HJ.out, HB.out⟩
set_option maxRecDepth 100000 in
set_option maxHeartbeats 4000000 in
theorem join_left (ga gb : Nat) (a0 a1 b : T) (w : World) (ha : RT w ga (.node a0 a1)) (hb : RT w gb b) (oa : (T.node a0 a1).ok) (ob : b.ok) (hl : (T.node a0 a1).tx.length + b.tx.length ≤ 600) (h : b.dp + 1 < (T.node a0 a1).dp)
    (hJ : ∀ g1 w1, RT w1 g1 a1 → RT w1 gb b → Calls Try.prog 108 #[.pointer (some ⟨g1, 0, none⟩), .pointer (some ⟨gb, 0, none⟩)] w1 (MadeJ a1 b w1)) :
    Calls Try.prog 108 #[.pointer (some ⟨ga, 0, none⟩), .pointer (some ⟨gb, 0, none⟩)] w (MadeJ (.node a0 a1) b w) := by
  have c1 := ha.c2
  have c2 := hb.c2
  have db := b.dp600 ob (by omega)
  have da := T.dp600 _ oa (by omega)
  obtain ⟨q, g0, g1, p1, p2, p3, hga, hq, hx, hy⟩ := ha.nd
  have HX := Lib.hid hx
  have HY := Lib.hid hy
  have HRB := Lib.hid hb
  have HO0 := Lib.hid oa.1
  have HLN : Hid (a0.tx.length + a1.tx.length + b.tx.length ≤ 600) := Lib.hid (by have h9 := hl; simp only [T.tx, List.length_append] at h9; omega)
  have HTWO := Lib.hid (fun t => jn_left_two a0 a1 b t oa h)
  have HLEFT := Lib.hid (fun t u => jn_left a0 a1 b t u oa h)
  have HJ := Lib.hid hJ
  generalize hdd : (T.node a0 a1).dp = d at *
  have hd1 : decide ((b.dp : Int) + 1 < (d : Int)) = true := by rw [decide_eq_true_eq]; omega
  clear ha hb hx hy oa ob hl h hdd hJ
  go_enter Try.func108, Try.ntmps108
  go_wp2_with fail
  go_quiet (fail)
  go_wp2_with fail
  go_quiet (fail)
  go_wp2_with fail
  refine wp_region_ph [([0, 1, 2, 3, 4, 5, 6, 7, 8, 9, 10, 11, 12, 13, 14], [15, 16]), ([17], [])] (fun w' => Below w.heap.size w w') (by kernel_rfl) (by kernel_rfl) (fun _ _ h1 h2 => bstep h1 h2) (by repeat' (first | exact Below.refl _ _ | apply below_drewN)) ?_
  intro ι F hne hF W0 hW0 hI0
  have s1F : ∀ i, (F i).cell? ⟨ga, 1, none⟩ = some (.pointer (some ⟨q, 0, none⟩)) := fun i => ((hF i).cell (p := ⟨ga, 1, none⟩) hga).trans p1
  have s2F : ∀ i, (F i).cell? ⟨q, 0, none⟩ = some (.pointer (some ⟨g0, 0, none⟩)) := fun i => ((hF i).cell (p := ⟨q, 0, none⟩) hq).trans p2
  have s3F : ∀ i, (F i).cell? ⟨q, 1, none⟩ = some (.pointer (some ⟨g1, 0, none⟩)) := fun i => ((hF i).cell (p := ⟨q, 1, none⟩) hq).trans p3
  (refine wpPh_cons ?_; simp only [pickOps, List.getElem?_cons_succ, List.getElem?_cons_zero])
  repeat (refine wpB_step (fun K hK => ?_); go_simp; first | (refine hK _ ?_; clear hK K) | (apply Exists.intro; refine ⟨fun _ => ?_, hK _ ?_⟩; (fail); clear hK K))
  refine wpB_nil ?_
  intro w3 hw3 hI3
  clear s1F s2F s3F
  refine wpRB_step (fun K hK => ?_)
  go_simp
  refine (HJ.out g1 w3 (HY.out.below hI3) (HRB.out.below hI3)).mono ?_
  rintro e w4 ⟨g4, t4, rfl, hr4, hj4, hb4⟩
  refine ⟨_, rfl, hK _ _ ⟨bstep hI3 hb4, ?_⟩⟩
  clear hK K
  intro w5 hw5 hI5
  have hr5 := hr4.below hw5
  have htwo := HTWO.out t4 hj4
  have htx := hj4.2.1
  clear hr4 hb4 hw5 hw3 hI3
  refine wpRB_step (fun K hK => ?_)
  go_simp
  refine (balanced_any g0 g4 a0 t4 w5 (HX.out.below hI5) hr5 HO0.out hj4.1 (by rw [htx, List.length_append]; have := HLN.out; omega) htwo.1 htwo.2).mono ?_
  rintro e w6 ⟨g6, t6, rfl, hr6, hj6, hb6⟩
  refine ⟨_, rfl, hK _ _ ⟨bstep hI5 hb6, ?_⟩⟩
  clear hK K
  intro w7 hw7 hI7
  have hr7 := hr6.below hw7
  have HU := Lib.hid (HLEFT.out t4 t6 hj4 hj6)
  clear hr6 hb6 hw7 hr5 hI5 htwo htx
  refine wpRB_nil ?_
  (refine wpPh_cons ?_; simp only [pickOps, List.getElem?_cons_succ, List.getElem?_cons_zero])
  repeat (refine wpB_step (fun K hK => ?_); go_simp; first | (refine hK _ ?_; clear hK K) | (apply Exists.intro; refine ⟨fun _ => ?_, hK _ ?_⟩; (fail); clear hK K))
  refine wpB_nil ?_
  intro w10 hw10 hI10
  have HR10 := Lib.hid (hr7.below hw10)
  have HI10 := Lib.hid hI10
  clear hr7 hw10 hI7 hj4 hj6
  refine wpRB_nil ?_
  refine wpPh_nil ?_
  clear hF hne F hI0 hW0 hI10
  go_wp2_with fail
  go_ret
  exact ⟨g6, _, rfl, HR10.out, HU.out, HI10.out⟩
set_option maxRecDepth 100000 in
set_option maxHeartbeats 8000000 in
theorem join_right (ga gb : Nat) (a b0 b1 : T) (w : World) (ha : RT w ga a) (hb : RT w gb (.node b0 b1)) (oa : a.ok) (ob : (T.node b0 b1).ok) (hl : a.tx.length + (T.node b0 b1).tx.length ≤ 600) (h : a.dp + 1 < (T.node b0 b1).dp)
    (hJ : ∀ g1 w1, RT w1 ga a → RT w1 g1 b0 → Calls Try.prog 108 #[.pointer (some ⟨ga, 0, none⟩), .pointer (some ⟨g1, 0, none⟩)] w1 (MadeJ a b0 w1)) :
    Calls Try.prog 108 #[.pointer (some ⟨ga, 0, none⟩), .pointer (some ⟨gb, 0, none⟩)] w (MadeJ a (.node b0 b1) w) := by
  have c1 := ha.c2
  have c2 := hb.c2
  have db := T.dp600 _ ob (by omega)
  have da := T.dp600 _ oa (by omega)
  obtain ⟨q, g0, g1, p1, p2, p3, hgb, hq, hx, hy⟩ := hb.nd
  have HX := Lib.hid hx
  have HY := Lib.hid hy
  have HRA := Lib.hid ha
  have HO1 := Lib.hid ob.2.1
  have HLN : Hid (a.tx.length + b0.tx.length + b1.tx.length ≤ 600) := Lib.hid (by have h9 := hl; simp only [T.tx, List.length_append] at h9; omega)
  have HTWO := Lib.hid (fun t => jn_right_two a b0 b1 t ob h)
  have HRIGHT := Lib.hid (fun t u => jn_right a b0 b1 t u ob h)
  have HJ := Lib.hid (fun g1 w1 (h1 : RT w1 ga a) (h2 : RT w1 g1 b0) => hJ g1 w1 h1 h2)
  generalize hdd : (T.node b0 b1).dp = d at *
  cases a with
  | leaf s =>
    obtain ⟨a0, a1, a2⟩ := ha.lf
    clear a2
    have hd1 : decide ((d : Int) + 1 < (T.dp (T.leaf s) : Int)) = false := by rw [decide_eq_false_iff_not]; omega
    have hd2 : decide ((T.dp (T.leaf s) : Int) + 1 < (d : Int)) = true := by rw [decide_eq_true_eq]; omega
    clear ha hb hx hy oa ob hl h hdd hJ
    generalize hda : T.dp (T.leaf s) = dpa at *
    clear hda
    go_enter Try.func108, Try.ntmps108
    go_wp2_with fail
    go_quiet (fail)
    go_wp2_with fail
    go_quiet (fail)
    go_wp2_with fail
    go_quiet (fail)
    go_wp2_with fail
    refine wp_region_ph [([0, 1, 2, 3, 4, 5, 6, 7, 9, 10, 11, 12, 13, 14, 15], [8, 16]), ([17], [])] (fun w' => Below w.heap.size w w') (by kernel_rfl) (by kernel_rfl) (fun _ _ h1 h2 => bstep h1 h2) (by repeat' (first | exact Below.refl _ _ | apply below_drewN)) ?_
    intro ι F hne hF W0 hW0 hI0
    have s1F : ∀ i, (F i).cell? ⟨gb, 1, none⟩ = some (.pointer (some ⟨q, 0, none⟩)) := fun i => ((hF i).cell (p := ⟨gb, 1, none⟩) hgb).trans p1
    have s2F : ∀ i, (F i).cell? ⟨q, 0, none⟩ = some (.pointer (some ⟨g0, 0, none⟩)) := fun i => ((hF i).cell (p := ⟨q, 0, none⟩) hq).trans p2
    have s3F : ∀ i, (F i).cell? ⟨q, 1, none⟩ = some (.pointer (some ⟨g1, 0, none⟩)) := fun i => ((hF i).cell (p := ⟨q, 1, none⟩) hq).trans p3
    (refine wpPh_cons ?_; simp only [pickOps, List.getElem?_cons_succ, List.getElem?_cons_zero])
    repeat (refine wpB_step (fun K hK => ?_); go_simp; first | (refine hK _ ?_; clear hK K) | (apply Exists.intro; refine ⟨fun _ => ?_, hK _ ?_⟩; (fail); clear hK K))
    refine wpB_nil ?_
    intro w3 hw3 hI3
    clear s1F s2F s3F
    refine wpRB_step (fun K hK => ?_)
    go_simp
    refine (HJ.out g0 w3 (HRA.out.below hI3) (HX.out.below hI3)).mono ?_
    rintro e w4 ⟨g4, t4, rfl, hr4, hj4, hb4⟩
    refine ⟨_, rfl, hK _ _ ⟨bstep hI3 hb4, ?_⟩⟩
    clear hK K
    intro w5 hw5 hI5
    have hr5 := hr4.below hw5
    have htwo := HTWO.out t4 hj4
    have htx := hj4.2.1
    clear hr4 hb4 hw5 hw3 hI3
    refine wpRB_step (fun K hK => ?_)
    go_simp
    refine (balanced_any g4 g1 t4 b1 w5 hr5 (HY.out.below hI5) hj4.1 HO1.out (by rw [htx, List.length_append]; have := HLN.out; omega) htwo.1 htwo.2).mono ?_
    rintro e w6 ⟨g6, t6, rfl, hr6, hj6, hb6⟩
    refine ⟨_, rfl, hK _ _ ⟨bstep hI5 hb6, ?_⟩⟩
    clear hK K
    intro w7 hw7 hI7
    have hr7 := hr6.below hw7
    have HU := Lib.hid (HRIGHT.out t4 t6 hj4 hj6)
    clear hr6 hb6 hw7 hr5 hI5 htwo htx
    refine wpRB_nil ?_
    (refine wpPh_cons ?_; simp only [pickOps, List.getElem?_cons_succ, List.getElem?_cons_zero])
    repeat (refine wpB_step (fun K hK => ?_); go_simp; first | (refine hK _ ?_; clear hK K) | (apply Exists.intro; refine ⟨fun _ => ?_, hK _ ?_⟩; (fail); clear hK K))
    refine wpB_nil ?_
    intro w10 hw10 hI10
    have HR10 := Lib.hid (hr7.below hw10)
    have HI10 := Lib.hid hI10
    clear hr7 hw10 hI7 hj4 hj6
    refine wpRB_nil ?_
    refine wpPh_nil ?_
    clear hF hne F hI0 hW0 hI10
    go_wp2_with fail
    go_ret
    exact ⟨g6, _, rfl, HR10.out, HU.out, HI10.out⟩
  | node x y =>
    obtain ⟨q2, e0, e1, s1, s2, s3, hgm, hq2, hx0, hx1⟩ := ha.nd
    clear hx0 hx1
    have hd1 : decide ((d : Int) + 1 < (T.dp (T.node x y) : Int)) = false := by rw [decide_eq_false_iff_not]; omega
    have hd2 : decide ((T.dp (T.node x y) : Int) + 1 < (d : Int)) = true := by rw [decide_eq_true_eq]; omega
    clear ha hb hx hy oa ob hl h hdd hJ
    generalize hda : T.dp (T.node x y) = dpa at *
    clear hda
    go_enter Try.func108, Try.ntmps108
    go_wp2_with fail
    go_quiet (fail)
    go_wp2_with fail
    go_quiet (fail)
    go_wp2_with fail
    go_quiet (fail)
    go_wp2_with fail
    refine wp_region_ph [([0, 1, 2, 3, 4, 5, 6, 7, 9, 10, 11, 12, 13, 14, 15], [8, 16]), ([17], [])] (fun w' => Below w.heap.size w w') (by kernel_rfl) (by kernel_rfl) (fun _ _ h1 h2 => bstep h1 h2) (by repeat' (first | exact Below.refl _ _ | apply below_drewN)) ?_
    intro ι F hne hF W0 hW0 hI0
    have s1F : ∀ i, (F i).cell? ⟨gb, 1, none⟩ = some (.pointer (some ⟨q, 0, none⟩)) := fun i => ((hF i).cell (p := ⟨gb, 1, none⟩) hgb).trans p1
    have s2F : ∀ i, (F i).cell? ⟨q, 0, none⟩ = some (.pointer (some ⟨g0, 0, none⟩)) := fun i => ((hF i).cell (p := ⟨q, 0, none⟩) hq).trans p2
    have s3F : ∀ i, (F i).cell? ⟨q, 1, none⟩ = some (.pointer (some ⟨g1, 0, none⟩)) := fun i => ((hF i).cell (p := ⟨q, 1, none⟩) hq).trans p3
    (refine wpPh_cons ?_; simp only [pickOps, List.getElem?_cons_succ, List.getElem?_cons_zero])
    repeat (refine wpB_step (fun K hK => ?_); go_simp; first | (refine hK _ ?_; clear hK K) | (apply Exists.intro; refine ⟨fun _ => ?_, hK _ ?_⟩; (fail); clear hK K))
    refine wpB_nil ?_
    intro w3 hw3 hI3
    clear s1F s2F s3F
    refine wpRB_step (fun K hK => ?_)
    go_simp
    refine (HJ.out g0 w3 (HRA.out.below hI3) (HX.out.below hI3)).mono ?_
    rintro e w4 ⟨g4, t4, rfl, hr4, hj4, hb4⟩
    refine ⟨_, rfl, hK _ _ ⟨bstep hI3 hb4, ?_⟩⟩
    clear hK K
    intro w5 hw5 hI5
    have hr5 := hr4.below hw5
    have htwo := HTWO.out t4 hj4
    have htx := hj4.2.1
    clear hr4 hb4 hw5 hw3 hI3
    refine wpRB_step (fun K hK => ?_)
    go_simp
    refine (balanced_any g4 g1 t4 b1 w5 hr5 (HY.out.below hI5) hj4.1 HO1.out (by rw [htx, List.length_append]; have := HLN.out; omega) htwo.1 htwo.2).mono ?_
    rintro e w6 ⟨g6, t6, rfl, hr6, hj6, hb6⟩
    refine ⟨_, rfl, hK _ _ ⟨bstep hI5 hb6, ?_⟩⟩
    clear hK K
    intro w7 hw7 hI7
    have hr7 := hr6.below hw7
    have HU := Lib.hid (HRIGHT.out t4 t6 hj4 hj6)
    clear hr6 hb6 hw7 hr5 hI5 htwo htx
    refine wpRB_nil ?_
    (refine wpPh_cons ?_; simp only [pickOps, List.getElem?_cons_succ, List.getElem?_cons_zero])
    repeat (refine wpB_step (fun K hK => ?_); go_simp; first | (refine hK _ ?_; clear hK K) | (apply Exists.intro; refine ⟨fun _ => ?_, hK _ ?_⟩; (fail); clear hK K))
    refine wpB_nil ?_
    intro w10 hw10 hI10
    have HR10 := Lib.hid (hr7.below hw10)
    have HI10 := Lib.hid hI10
    clear hr7 hw10 hI7 hj4 hj6
    refine wpRB_nil ?_
    refine wpPh_nil ?_
    clear hF hne F hI0 hW0 hI10
    go_wp2_with fail
    go_ret
    exact ⟨g6, _, rfl, HR10.out, HU.out, HI10.out⟩
theorem join_rec (k : Nat) : ∀ (ga gb : Nat) (a b : T) (w : World), a.dp + b.dp ≤ k → RT w ga a → RT w gb b → a.ok → b.ok → a.tx.length + b.tx.length ≤ 600 →
    Calls Try.prog 108 #[.pointer (some ⟨ga, 0, none⟩), .pointer (some ⟨gb, 0, none⟩)] w (MadeJ a b w) := by
  induction k with
  | zero => intro ga gb a b w hk; have := a.dp_pos; omega
  | succ k ih =>
    intro ga gb a b w hk ha hb oa ob hl
    by_cases h1 : b.dp + 1 < a.dp
    · cases a with
      | leaf s => simp only [T.dp] at h1; omega
      | node a0 a1 =>
        refine join_left ga gb a0 a1 b w ha hb oa ob hl h1 (fun g1 w1 r1 r2 => ih g1 gb a1 b w1 ?_ r1 r2 oa.2.1 ob ?_)
        · simp only [T.dp] at hk; omega
        · simp only [T.tx, List.length_append] at hl; omega
    · by_cases h2 : a.dp + 1 < b.dp
      · cases b with
        | leaf s => simp only [T.dp] at h2; omega
        | node b0 b1 =>
          refine join_right ga gb a b0 b1 w ha hb oa ob hl h2 (fun g1 w1 r1 r2 => ih ga g1 a b0 w1 ?_ r1 r2 oa ob.1 ?_)
          · simp only [T.dp] at hk; omega
          · simp only [T.tx, List.length_append] at hl; omega
      · exact join_flat ga gb a b w ha hb oa ob hl (by omega) (by omega)
/-- Join of ropes that may be nil. -/
def JoinPost (oa ob : Option T) (w : World) (e : Ending) (w' : World) : Prop := ∃ v o, e = .returned v ∧ RO w' v o ∧ ook o ∧ otx o = otx oa ++ otx ob ∧ Below w.heap.size w w'
set_option maxRecDepth 100000 in
theorem join_any (va vb : Value) (oa ob : Option T) (w : World) (ha : RO w va oa) (hb : RO w vb ob) (ka : ook oa) (kb : ook ob) (hl : (otx oa).length + (otx ob).length ≤ 600) :
    Calls Try.prog 108 #[va, vb] w (JoinPost oa ob w) := by
  cases oa with
  | none =>
    have h' : va = .pointer none := ha
    subst h'
    have HB := Lib.hid hb
    have HK := Lib.hid kb
    cases ob with
    | none =>
      have h' : vb = .pointer none := hb
      subst h'
      clear ha hb ka kb hl
      go_enter Try.func108, Try.ntmps108
      go_wp2
      go_ret
      exact ⟨_, none, rfl, rfl, trivial, rfl, Below.refl _ _⟩
    | some t =>
      obtain ⟨g, rfl, hr⟩ := hb
      clear ha ka kb hl hr
      go_enter Try.func108, Try.ntmps108
      go_wp2
      go_ret
      exact ⟨_, some t, rfl, HB.out, HK.out, rfl, Below.refl _ _⟩
  | some a =>
    obtain ⟨ga, rfl, hra⟩ := id ha
    cases ob with
    | none =>
      have h' : vb = .pointer none := hb
      subst h'
      have HA := Lib.hid ha
      have HK := Lib.hid ka
      clear ha hb ka kb hl hra
      go_enter Try.func108, Try.ntmps108
      go_wp2
      go_ret
      exact ⟨_, some a, rfl, HA.out, HK.out, by simp [otx], Below.refl _ _⟩
    | some b =>
      obtain ⟨gb, rfl, hrb⟩ := hb
      refine (join_rec _ ga gb a b w (Nat.le_refl _) hra hrb ka kb hl).mono ?_
      rintro e w' ⟨g, t, rfl, hr, hj, hbl⟩
      exact ⟨_, some t, rfl, ⟨g, rfl, hr⟩, hj.1, hj.2.1, hbl⟩
end Go.Proofs.Ytddbhoilhapljaa
