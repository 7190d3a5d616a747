/-
  The walk of rope.balanced.
-/
import Derived.Test.YtddbhoilhapljaaRopeN
namespace Go.Proofs.Ytddbhoilhapljaa
open Go.RowKit
set_option linter.unusedVariables false

theorem RT.c2 {w : World} {g : Nat} {t : T} (h : RT w g t) : w.cell? ⟨g, 2, none⟩ = some (.int .i64 (t.dp : Int)) := by
  obtain ⟨s, p, hb⟩ := h.blk
  rw [hb.cell]; rfl
theorem RT.drewN {w : World} {g : Nat} {t : T} (h : RT w g t) (n : Nat) : RT (w.drewN n) g t := h.below (below_drewN (Below.refl _ _) n)
theorem RT.nd {w : World} {g : Nat} {a b : T} (h : RT w g (.node a b)) : ∃ q ga gb, w.cell? ⟨g, 1, none⟩ = some (.pointer (some ⟨q, 0, none⟩)) ∧ w.cell? ⟨q, 0, none⟩ = some (.pointer (some ⟨ga, 0, none⟩)) ∧ w.cell? ⟨q, 1, none⟩ = some (.pointer (some ⟨gb, 0, none⟩)) ∧
    g < w.heap.size ∧ q < w.heap.size ∧ RT w ga a ∧ RT w gb b := by
  obtain ⟨q, ga, gb, h1, h2, h3, h4⟩ := h
  exact ⟨q, ga, gb, by rw [h1.cell]; rfl, by rw [h2.cell]; rfl, by rw [h2.cell]; rfl, h1.lt, h2.lt, h3, h4⟩
def MadeB (a b : T) (w : World) (e : Ending) (w' : World) : Prop := ∃ g t, e = .returned (.pointer (some ⟨g, 0, none⟩)) ∧ RT w' g t ∧ Bal a b t ∧ Below w.heap.size w w'
theorem T.dp600 (t : T) (h : t.ok) (hl : t.tx.length ≤ 600) : t.dp ≤ 600 := Nat.le_trans (t.dp_le h) hl
set_option maxRecDepth 100000 in
set_option maxHeartbeats 2000000 in
theorem balanced_flat (ga gb : Nat) (a b : T) (w : World) (ha : RT w ga a) (hb : RT w gb b) (oa : a.ok) (ob : b.ok) (hl : a.tx.length + b.tx.length ≤ 600) (h1 : a.dp ≤ b.dp + 1) (h2 : b.dp ≤ a.dp + 1) :
    Calls Try.prog 118 #[.pointer (some ⟨ga, 0, none⟩), .pointer (some ⟨gb, 0, none⟩)] w (MadeB a b w) := by
  have da := a.dp600 oa (by omega)
  have db := b.dp600 ob (by omega)
  have c1 := ha.c2
  have c2 := hb.c2
  have HRA := Lib.hid ha
  have HRB := Lib.hid hb
  have HBF := Lib.hid (bal_flat a b oa ob h1 h2)
  have hla : a.tx.length ≤ 600 := by omega
  have hlb : b.tx.length ≤ 600 := by omega
  have hd1 : decide ((b.dp : Int) + 1 < (a.dp : Int)) = false := by rw [decide_eq_false_iff_not]; omega
  have hd2 : decide ((a.dp : Int) + 1 < (b.dp : Int)) = false := by rw [decide_eq_false_iff_not]; omega
  clear ha hb oa ob
  go_enter Try.func118, Try.ntmps118
  go_wp2_with fail
  go_quiet (fail)
  go_wp2_with fail
  go_quiet (fail)
  go_wp2_with fail
  refine (node_any ga gb a b _ (HRA.out.drewN _) (HRB.out.drewN _) hla hlb (by omega) (by omega)).mono ?_
  rintro e w1 ⟨g, rfl, hr, hb⟩
  have HR := Lib.hid hr
  have HB := Lib.hid (bstep (below_drewN (Below.refl w.heap.size w) _) hb)
  clear hr hb
  go_wp2_with fail
  go_ret
  exact ⟨g, _, rfl, HR.out, HBF.out, HB.out⟩
set_option maxRecDepth 100000 in
set_option maxHeartbeats 4000000 in
theorem balanced_left1 (ga gb : Nat) (x y b : T) (w : World) (ha : RT w ga (.node x y)) (hb : RT w gb b) (oa : (T.node x y).ok) (ob : b.ok) (hl : (T.node x y).tx.length + b.tx.length ≤ 600) (h1 : (T.node x y).dp = b.dp + 2) (h : y.dp ≤ x.dp) :
    Calls Try.prog 118 #[.pointer (some ⟨ga, 0, none⟩), .pointer (some ⟨gb, 0, none⟩)] w (MadeB (.node x y) b w) := by
  have c1 := ha.c2
  have c2 := hb.c2
  have HBF := Lib.hid (bal_left1 x y b oa ob h1 h)
  have db := b.dp600 ob (by omega)
  obtain ⟨q, gx, gy, p1, p2, p3, hga, hq, hx, hy⟩ := ha.nd
  have cx := hx.c2
  have cy := hy.c2
  have hlx : x.tx.length + y.tx.length + b.tx.length ≤ 600 := by have h9 := hl; simp only [T.tx, List.length_append] at h9; omega
  have dx := x.dp600 oa.1 (by omega)
  have dy := y.dp600 oa.2.1 (by omega)
  have HRX := Lib.hid hx
  have HRY := Lib.hid hy
  have HRB := Lib.hid hb
  have hbq := hb.lt
  generalize hdd : (T.node x y).dp = d at *
  have hd1 : decide ((b.dp : Int) + 1 < (d : Int)) = true := by rw [decide_eq_true_eq]; omega
  have hd3 : decide ((y.dp : Int) ≤ (x.dp : Int)) = true := by rw [decide_eq_true_eq]; omega
  have hd4 : (y.dp : Int) ≤ (x.dp : Int) := by omega
  clear ha hb hx hy hl oa ob hdd
  go_enter Try.func118, Try.ntmps118
  go_wp2_with fail
  go_quiet (fail)
  go_wp2_with fail
  go_quiet (fail)
  go_wp2_with fail
  go_quiet (fail)
  go_wp2_with fail
  refine (node_any gy gb y b _ (HRY.out.drewN _) (HRB.out.drewN _) (by omega) (by omega) (by omega) (by omega)).mono ?_
  rintro e w1 ⟨g1, rfl, hr1, hb1⟩
  have HR1 := Lib.hid hr1
  have HB1 := Lib.hid (bstep (below_drewN (Below.refl w.heap.size w) _) hb1)
  clear hr1 hb1
  go_wp2_with fail
  refine (node_any gx g1 x (.node y b) _ (HRX.out.below HB1.out) HR1.out (by omega) (by simp only [T.tx, List.length_append]; omega) (by omega) (by simp only [T.dp]; omega)).mono ?_
  rintro e w2 ⟨g2, rfl, hr2, hb2⟩
  have HR2 := Lib.hid hr2
  have HB2 := Lib.hid (bstep HB1.out hb2)
  clear hr2 hb2
  go_wp2_with fail
  go_ret
  exact ⟨g2, _, rfl, HR2.out, HBF.out, HB2.out⟩
set_option maxRecDepth 100000 in
set_option maxHeartbeats 8000000 in
theorem balanced_left2 (ga gb : Nat) (x y0 y1 b : T) (w : World) (ha : RT w ga (.node x (.node y0 y1))) (hb : RT w gb b) (oa : (T.node x (.node y0 y1)).ok) (ob : b.ok) (hl : (T.node x (.node y0 y1)).tx.length + b.tx.length ≤ 600) (h1 : (T.node x (.node y0 y1)).dp = b.dp + 2) (h : ¬ (T.node y0 y1).dp ≤ x.dp) :
    Calls Try.prog 118 #[.pointer (some ⟨ga, 0, none⟩), .pointer (some ⟨gb, 0, none⟩)] w (MadeB (.node x (.node y0 y1)) b w) := by
  have c1 := ha.c2
  have c2 := hb.c2
  have HBF := Lib.hid (bal_left2 x y0 y1 b oa ob h1 h)
  have db := b.dp600 ob (by omega)
  obtain ⟨q, gx, gy, p1, p2, p3, hga, hq, hx, hy⟩ := ha.nd
  have cx := hx.c2
  have cy := hy.c2
  have hlx : x.tx.length + (y0.tx.length + y1.tx.length) + b.tx.length ≤ 600 := by have h9 := hl; simp only [T.tx, List.length_append] at h9; omega
  have dx := x.dp600 oa.1 (by omega)
  have dy0 := y0.dp600 oa.2.1.1 (by omega)
  have dy1 := y1.dp600 oa.2.1.2.1 (by omega)
  obtain ⟨q2, g0, g1, s1, s2, s3, hgm, hq2, hy0, hy1⟩ := hy.nd
  have HRX := Lib.hid hx
  have HR0 := Lib.hid hy0
  have HR1 := Lib.hid hy1
  have HRB := Lib.hid hb
  have hbq := hb.lt
  have hyd : (T.node y0 y1).dp ≤ 601 := by simp only [T.dp]; omega
  generalize hdd : (T.node x (.node y0 y1)).dp = d at *
  generalize hdy : (T.node y0 y1).dp = dy at *
  have hd1 : decide ((b.dp : Int) + 1 < (d : Int)) = true := by rw [decide_eq_true_eq]; omega
  have hd3 : decide ((dy : Int) ≤ (x.dp : Int)) = false := by rw [decide_eq_false_iff_not]; omega
  have hd4 : ¬ (dy : Int) ≤ (x.dp : Int) := by omega
  clear ha hb hx hy hy0 hy1 hl oa ob hdd hdy
  go_enter Try.func118, Try.ntmps118
  go_wp2_with fail
  go_quiet (fail)
  go_wp2_with fail
  go_quiet (fail)
  go_wp2_with fail
  go_quiet (fail)
  go_wp2_with fail
  clear c1 c2 p1 p2 p3 cx cy hd1 hd3 hd4 h1 h
  refine wp_region_ph [([0, 1, 2, 3, 4, 5, 6, 7, 9, 10, 11, 12, 13, 14, 15, 16], [8, 17, 18]), ([19], [])] (fun w' => Below w.heap.size w w') (by kernel_rfl) (by kernel_rfl) (fun _ _ h1 h2 => bstep h1 h2) (by repeat' (first | exact Below.refl _ _ | apply below_drewN)) ?_
  intro ι F hne hF W0 hW0 hI0
  have s1F : ∀ i, (F i).cell? ⟨gy, 1, none⟩ = some (.pointer (some ⟨q2, 0, none⟩)) := fun i => ((hF i).cell (p := ⟨gy, 1, none⟩) hgm).trans s1
  have s2F : ∀ i, (F i).cell? ⟨q2, 0, none⟩ = some (.pointer (some ⟨g0, 0, none⟩)) := fun i => ((hF i).cell (p := ⟨q2, 0, none⟩) hq2).trans s2
  have s3F : ∀ i, (F i).cell? ⟨q2, 1, none⟩ = some (.pointer (some ⟨g1, 0, none⟩)) := fun i => ((hF i).cell (p := ⟨q2, 1, none⟩) hq2).trans s3
  (refine wpPh_cons ?_; simp only [pickOps, List.getElem?_cons_succ, List.getElem?_cons_zero])
  repeat (refine wpB_step (fun K hK => ?_); go_simp; first | (refine hK _ ?_; clear hK K) | (apply Exists.intro; refine ⟨fun _ => ?_, hK _ ?_⟩; (fail); clear hK K))
  refine wpB_nil ?_
  intro w3 hw3 hI3
  clear s1F s2F s3F
  refine wpRB_step (fun K hK => ?_)
  go_simp
  refine (node_any gx g0 x y0 w3 (HRX.out.below hI3) (HR0.out.below hI3) (by omega) (by omega) (by omega) (by omega)).mono ?_
  rintro e w4 ⟨g4, rfl, hr4, hb4⟩
  refine ⟨_, rfl, hK _ _ ⟨bstep hI3 hb4, ?_⟩⟩
  clear hK K
  intro w5 hw5 hI5
  have hr5 := hr4.below hw5
  clear hr4 hb4 hw5 hw3 hI3
  refine wpRB_step (fun K hK => ?_)
  go_simp
  refine (node_any g1 gb y1 b w5 (HR1.out.below hI5) (HRB.out.below hI5) (by omega) (by omega) (by omega) (by omega)).mono ?_
  rintro e w6 ⟨g6, rfl, hr6, hb6⟩
  refine ⟨_, rfl, hK _ _ ⟨bstep hI5 hb6, ?_⟩⟩
  clear hK K
  intro w7 hw7 hI7
  have hr7 := hr6.below hw7
  have hs7 := (hr5.below hb6).below hw7
  clear hr6 hb6 hw7 hr5 hI5
  refine wpRB_step (fun K hK => ?_)
  go_simp
  refine (node_any g4 g6 (.node x y0) (.node y1 b) w7 hs7 hr7 (by simp only [T.tx, List.length_append]; omega) (by simp only [T.tx, List.length_append]; omega) (by simp only [T.dp]; omega) (by simp only [T.dp]; omega)).mono ?_
  rintro e w8 ⟨g8, rfl, hr8, hb8⟩
  refine ⟨_, rfl, hK _ _ ⟨bstep hI7 hb8, ?_⟩⟩
  clear hK K
  intro w9 hw9 hI9
  have hr9 := hr8.below hw9
  clear hr8 hb8 hw9 hI7 hr7 hs7
  refine wpRB_nil ?_
  (refine wpPh_cons ?_; simp only [pickOps, List.getElem?_cons_succ, List.getElem?_cons_zero])
  repeat (refine wpB_step (fun K hK => ?_); go_simp; first | (refine hK _ ?_; clear hK K) | (apply Exists.intro; refine ⟨fun _ => ?_, hK _ ?_⟩; (fail); clear hK K))
  refine wpB_nil ?_
  intro w10 hw10 hI10
  have HR10 := Lib.hid (hr9.below hw10)
  have HI10 := Lib.hid hI10
  clear hr9 hw10 hI9
  refine wpRB_nil ?_
  refine wpPh_nil ?_
  clear hF hne F hI0 hW0 hI10
  go_wp2_with fail
  go_ret
  exact ⟨g8, _, rfl, HR10.out, HBF.out, HI10.out⟩
set_option maxRecDepth 100000 in
set_option maxHeartbeats 4000000 in
theorem balanced_right1 (ga gb : Nat) (a x y : T) (w : World) (ha : RT w ga a) (hb : RT w gb (.node x y)) (oa : a.ok) (ob : (T.node x y).ok) (hl : a.tx.length + (T.node x y).tx.length ≤ 600) (h1 : (T.node x y).dp = a.dp + 2) (h : x.dp ≤ y.dp) :
    Calls Try.prog 118 #[.pointer (some ⟨ga, 0, none⟩), .pointer (some ⟨gb, 0, none⟩)] w (MadeB a (.node x y) w) := by
  have c1 := ha.c2
  have c2 := hb.c2
  have HBF := Lib.hid (bal_right1 a x y oa ob h1 h)
  have da := a.dp600 oa (by omega)
  obtain ⟨q, gx, gy, p1, p2, p3, hgb, hq, hx, hy⟩ := hb.nd
  have cx := hx.c2
  have cy := hy.c2
  have hlx : a.tx.length + (x.tx.length + y.tx.length) ≤ 600 := by have h9 := hl; simp only [T.tx, List.length_append] at h9; omega
  have dx := x.dp600 ob.1 (by omega)
  have dy := y.dp600 ob.2.1 (by omega)
  have HRX := Lib.hid hx
  have HRY := Lib.hid hy
  have HRA := Lib.hid ha
  have haq := ha.lt
  generalize hdd : (T.node x y).dp = d at *
  have hd1 : decide ((d : Int) + 1 < (a.dp : Int)) = false := by rw [decide_eq_false_iff_not]; omega
  have hd2 : decide ((a.dp : Int) + 1 < (d : Int)) = true := by rw [decide_eq_true_eq]; omega
  have hd3 : decide ((x.dp : Int) ≤ (y.dp : Int)) = true := by rw [decide_eq_true_eq]; omega
  have hd4 : (x.dp : Int) ≤ (y.dp : Int) := by omega
  clear ha hb hx hy hl oa ob hdd
  go_enter Try.func118, Try.ntmps118
  go_wp2_with fail
  go_quiet (fail)
  go_wp2_with fail
  go_quiet (fail)
  go_wp2_with fail
  go_quiet (fail)
  go_wp2_with fail
  go_quiet (fail)
  go_wp2_with fail
  refine (node_any ga gx a x _ (HRA.out.drewN _) (HRX.out.drewN _) (by omega) (by omega) (by omega) (by omega)).mono ?_
  rintro e w1 ⟨g1, rfl, hr1, hb1⟩
  have HR1 := Lib.hid hr1
  have HB1 := Lib.hid (bstep (below_drewN (Below.refl w.heap.size w) _) hb1)
  clear hr1 hb1
  go_wp2_with fail
  refine (node_any g1 gy (.node a x) y _ HR1.out (HRY.out.below HB1.out) (by simp only [T.tx, List.length_append]; omega) (by omega) (by simp only [T.dp]; omega) (by omega)).mono ?_
  rintro e w2 ⟨g2, rfl, hr2, hb2⟩
  have HR2 := Lib.hid hr2
  have HB2 := Lib.hid (bstep HB1.out hb2)
  clear hr2 hb2
  go_wp2_with fail
  go_ret
  exact ⟨g2, _, rfl, HR2.out, HBF.out, HB2.out⟩
set_option maxRecDepth 100000 in
set_option maxHeartbeats 8000000 in
theorem balanced_right2 (ga gb : Nat) (a x0 x1 y : T) (w : World) (ha : RT w ga a) (hb : RT w gb (.node (.node x0 x1) y)) (oa : a.ok) (ob : (T.node (.node x0 x1) y).ok) (hl : a.tx.length + (T.node (.node x0 x1) y).tx.length ≤ 600) (h1 : (T.node (.node x0 x1) y).dp = a.dp + 2) (h : ¬ (T.node x0 x1).dp ≤ y.dp) :
    Calls Try.prog 118 #[.pointer (some ⟨ga, 0, none⟩), .pointer (some ⟨gb, 0, none⟩)] w (MadeB a (.node (.node x0 x1) y) w) := by
  have c1 := ha.c2
  have c2 := hb.c2
  have HBF := Lib.hid (bal_right2 a x0 x1 y oa ob h1 h)
  have da := a.dp600 oa (by omega)
  obtain ⟨q, gx, gy, p1, p2, p3, hgb, hq, hx, hy⟩ := hb.nd
  have cx := hx.c2
  have cy := hy.c2
  have hlx : a.tx.length + ((x0.tx.length + x1.tx.length) + y.tx.length) ≤ 600 := by have h9 := hl; simp only [T.tx, List.length_append] at h9; omega
  have dy := y.dp600 ob.2.1 (by omega)
  have dx0 := x0.dp600 ob.1.1 (by omega)
  have dx1 := x1.dp600 ob.1.2.1 (by omega)
  obtain ⟨q2, g0, g1, s1, s2, s3, hgm, hq2, hx0, hx1⟩ := hx.nd
  have HRY := Lib.hid hy
  have HR0 := Lib.hid hx0
  have HR1 := Lib.hid hx1
  have HRA := Lib.hid ha
  have haq := ha.lt
  have hxd : (T.node x0 x1).dp ≤ 601 := by simp only [T.dp]; omega
  generalize hdd : (T.node (.node x0 x1) y).dp = d at *
  generalize hdx : (T.node x0 x1).dp = dx at *
  have hd1 : decide ((d : Int) + 1 < (a.dp : Int)) = false := by rw [decide_eq_false_iff_not]; omega
  have hd2 : decide ((a.dp : Int) + 1 < (d : Int)) = true := by rw [decide_eq_true_eq]; omega
  have hd3 : decide ((dx : Int) ≤ (y.dp : Int)) = false := by rw [decide_eq_false_iff_not]; omega
  have hd4 : ¬ (dx : Int) ≤ (y.dp : Int) := by omega
  clear ha hb hx hy hx0 hx1 hl oa ob hdd hdx
  go_enter Try.func118, Try.ntmps118
  go_wp2_with fail
  go_quiet (fail)
  go_wp2_with fail
  go_quiet (fail)
  go_wp2_with fail
  go_quiet (fail)
  go_wp2_with fail
  go_quiet (fail)
  go_wp2_with fail
  clear c1 c2 p1 p2 p3 cx cy hd1 hd2 hd3 hd4 h1 h
  refine wp_region_ph [([0, 1, 2, 3, 4, 5, 6, 7, 9, 10, 11, 12, 13, 14, 15, 16], [8, 17, 18]), ([19], [])] (fun w' => Below w.heap.size w w') (by kernel_rfl) (by kernel_rfl) (fun _ _ h1 h2 => bstep h1 h2) (by repeat' (first | exact Below.refl _ _ | apply below_drewN)) ?_
  intro ι F hne hF W0 hW0 hI0
  have s1F : ∀ i, (F i).cell? ⟨gx, 1, none⟩ = some (.pointer (some ⟨q2, 0, none⟩)) := fun i => ((hF i).cell (p := ⟨gx, 1, none⟩) hgm).trans s1
  have s2F : ∀ i, (F i).cell? ⟨q2, 0, none⟩ = some (.pointer (some ⟨g0, 0, none⟩)) := fun i => ((hF i).cell (p := ⟨q2, 0, none⟩) hq2).trans s2
  have s3F : ∀ i, (F i).cell? ⟨q2, 1, none⟩ = some (.pointer (some ⟨g1, 0, none⟩)) := fun i => ((hF i).cell (p := ⟨q2, 1, none⟩) hq2).trans s3
  (refine wpPh_cons ?_; simp only [pickOps, List.getElem?_cons_succ, List.getElem?_cons_zero])
  repeat (refine wpB_step (fun K hK => ?_); go_simp; first | (refine hK _ ?_; clear hK K) | (apply Exists.intro; refine ⟨fun _ => ?_, hK _ ?_⟩; (fail); clear hK K))
  refine wpB_nil ?_
  intro w3 hw3 hI3
  clear s1F s2F s3F
  refine wpRB_step (fun K hK => ?_)
  go_simp
  refine (node_any ga g0 a x0 w3 (HRA.out.below hI3) (HR0.out.below hI3) (by omega) (by omega) (by omega) (by omega)).mono ?_
  rintro e w4 ⟨g4, rfl, hr4, hb4⟩
  refine ⟨_, rfl, hK _ _ ⟨bstep hI3 hb4, ?_⟩⟩
  clear hK K
  intro w5 hw5 hI5
  have hr5 := hr4.below hw5
  clear hr4 hb4 hw5 hw3 hI3
  refine wpRB_step (fun K hK => ?_)
  go_simp
  refine (node_any g1 gy x1 y w5 (HR1.out.below hI5) (HRY.out.below hI5) (by omega) (by omega) (by omega) (by omega)).mono ?_
  rintro e w6 ⟨g6, rfl, hr6, hb6⟩
  refine ⟨_, rfl, hK _ _ ⟨bstep hI5 hb6, ?_⟩⟩
  clear hK K
  intro w7 hw7 hI7
  have hr7 := hr6.below hw7
  have hs7 := (hr5.below hb6).below hw7
  clear hr6 hb6 hw7 hr5 hI5
  refine wpRB_step (fun K hK => ?_)
  go_simp
  refine (node_any g4 g6 (.node a x0) (.node x1 y) w7 hs7 hr7 (by simp only [T.tx, List.length_append]; omega) (by simp only [T.tx, List.length_append]; omega) (by simp only [T.dp]; omega) (by simp only [T.dp]; omega)).mono ?_
  rintro e w8 ⟨g8, rfl, hr8, hb8⟩
  refine ⟨_, rfl, hK _ _ ⟨bstep hI7 hb8, ?_⟩⟩
  clear hK K
  intro w9 hw9 hI9
  have hr9 := hr8.below hw9
  clear hr8 hb8 hw9 hI7 hr7 hs7
  refine wpRB_nil ?_
  (refine wpPh_cons ?_; simp only [pickOps, List.getElem?_cons_succ, List.getElem?_cons_zero])
  repeat (refine wpB_step (fun K hK => ?_); go_simp; first | (refine hK _ ?_; clear hK K) | (apply Exists.intro; refine ⟨fun _ => ?_, hK _ ?_⟩; (fail); clear hK K))
  refine wpB_nil ?_
  intro w10 hw10 hI10
  have HR10 := Lib.hid (hr9.below hw10)
  have HI10 := Lib.hid hI10
  clear hr9 hw10 hI9
  refine wpRB_nil ?_
  refine wpPh_nil ?_
  clear hF hne F hI0 hW0 hI10
  go_wp2_with fail
  go_ret
  exact ⟨g8, _, rfl, HR10.out, HBF.out, HI10.out⟩
/-- balanced at depths that differ by two at most. -/
theorem balanced_any (ga gb : Nat) (a b : T) (w : World) (ha : RT w ga a) (hb : RT w gb b) (oa : a.ok) (ob : b.ok) (hl : a.tx.length + b.tx.length ≤ 600) (h1 : a.dp ≤ b.dp + 2) (h2 : b.dp ≤ a.dp + 2) :
    Calls Try.prog 118 #[.pointer (some ⟨ga, 0, none⟩), .pointer (some ⟨gb, 0, none⟩)] w (MadeB a b w) := by
  have pa := a.dp_pos
  have pb := b.dp_pos
  by_cases hl1 : a.dp = b.dp + 2
  · cases a with
    | leaf s => simp only [T.dp] at hl1; omega
    | node x y =>
      by_cases h : y.dp ≤ x.dp
      · exact balanced_left1 ga gb x y b w ha hb oa ob hl hl1 h
      · cases y with
        | leaf s => have := x.dp_pos; simp only [T.dp] at h; omega
        | node y0 y1 => exact balanced_left2 ga gb x y0 y1 b w ha hb oa ob hl hl1 h
  · by_cases hl2 : b.dp = a.dp + 2
    · cases b with
      | leaf s => simp only [T.dp] at hl2; omega
      | node x y =>
        by_cases h : x.dp ≤ y.dp
        · exact balanced_right1 ga gb a x y w ha hb oa ob hl hl2 h
        · cases x with
          | leaf s => have := y.dp_pos; simp only [T.dp] at h; omega
          | node x0 x1 => exact balanced_right2 ga gb a x0 x1 y w ha hb oa ob hl hl2 h
    · exact balanced_flat ga gb a b w ha hb oa ob hl (by omega) (by omega)
end Go.Proofs.Ytddbhoilhapljaa
