/-
  The walk of SpansTwo: at every input it returns true, and nothing that was there is changed.
-/
import Derived.Test.YtddbhoilhapljaaSpanD
import Derived.Test.YtddbhoilhapljaaSpanS
import Derived.Test.YtddbhoilhapljaaOrdC
import Derived.Test.YtddbhoilhapljaaReg
import Derived.BigQuiet
import Derived.StillTailTactics
import Derived.Deep.QuietTactic
namespace Go.Proofs.Ytddbhoilhapljaa
open Go.RowKit
set_option linter.unusedVariables false
set_option linter.unusedSimpArgs false

theorem picked_one (a n : Int) (ha : -9223372036854775808 ≤ a ∧ a ≤ 9223372036854775807) (hn : 0 < n) (hn2 : n ≤ 4611686018427387904) : ∃ q : Nat, 1 ≤ q ∧ (q : Int) ≤ n ∧ ∀ W, Calls Try.prog 15 #[.int .i64 a, .int .i64 n] W fun e w' => e = .returned (.int .i64 ((q : Int) - 1)) ∧ W = w' := by
  obtain ⟨q, h1, h2⟩ := picked_nat a n ha hn hn2
  refine ⟨q + 1, by omega, by omega, fun W => ?_⟩
  rw [show (((q + 1 : Nat) : Int) - 1) = (q : Int) by omega]
  exact h2 W
theorem with_comm {l o1 o2 q1 q2 : List Sp} {x y : Sp} (h1 : IsWith l x o1) (h2 : IsWith o1 y o2) (k1 : IsWith l y q1) (k2 : IsWith q1 x q2) : o2 = q2 := by
  refine nrm_eq o2 q2 0 0 h2.1 k2.1 fun i => ?_
  rw [h2.2.1, h1.2.1, k2.2.1, k1.2.1]
  cases inS l i <;> cases (decide (x.lo ≤ i) && decide (i < x.hi)) <;> cases (decide (y.lo ≤ i) && decide (i < y.hi)) <;> rfl
theorem cut_comm {l o1 o2 q1 q2 : List Sp} {x y : Sp} (h1 : IsCut l x o1) (h2 : IsCut o1 y o2) (k1 : IsCut l y q1) (k2 : IsCut q1 x q2) : o2 = q2 := by
  refine nrm_eq o2 q2 0 0 h2.1 k2.1 fun i => ?_
  rw [h2.2.1, h1.2.1, k2.2.1, k1.2.1]
  cases inS l i <;> cases (decide (x.lo ≤ i) && decide (i < x.hi)) <;> cases (decide (y.lo ≤ i) && decide (i < y.hi)) <;> rfl
set_option maxRecDepth 100000 in
set_option maxHeartbeats 8000000 in
theorem spansTwo_walk (w : World) (v0 : Value) (xs : List Int) (h0 : Row .i64 w v0 xs) (size : Int) (hsz : -9223372036854775808 ≤ size ∧ size ≤ 9223372036854775807) (a : Int) (hai : -9223372036854775808 ≤ a ∧ a ≤ 9223372036854775807) (b : Int) (hbi : -9223372036854775808 ≤ b ∧ b ≤ 9223372036854775807) (c : Int) (hci : -9223372036854775808 ≤ c ∧ c ≤ 9223372036854775807) (d : Int) (hdi : -9223372036854775808 ≤ d ∧ d ≤ 9223372036854775807) :
    Calls Try.prog 3 #[v0, .int .i64 size, .int .i64 a, .int .i64 b, .int .i64 c, .int .i64 d] w fun e w' => e = .returned (.bool true) ∧ Below w.heap.size w w' := by
  obtain ⟨n, hn1, hn2, KN⟩ := picked_one size 200 hsz (by omega) (by omega)
  obtain ⟨xl, hxl, KA⟩ := picked_nat a (n : Int) hai (by omega) (by omega)
  obtain ⟨xd, hxd, KB⟩ := picked_nat b ((n : Int) - (xl : Int) + 1) hbi (by omega) (by omega)
  obtain ⟨yl, hyl, KC⟩ := picked_nat c (n : Int) hci (by omega) (by omega)
  obtain ⟨yd, hyd, KD⟩ := picked_nat d ((n : Int) - (yl : Int) + 1) hdi (by omega) (by omega)
  obtain ⟨xh, hxh⟩ : ∃ xh, xl + xd = xh := ⟨_, rfl⟩
  obtain ⟨yh, hyh⟩ : ∃ yh, yl + yd = yh := ⟨_, rfl⟩
  have hax : (xh : Int) = (xl : Int) + (xd : Int) := by omega
  have hay : (yh : Int) = (yl : Int) + (yd : Int) := by omega
  have HAX := Lib.hid hax
  have HAY := Lib.hid hay
  have hxb : xl ≤ xh ∧ xh ≤ n := by omega
  have hyb : yl ≤ yh ∧ yh ≤ n := by omega
  have KN := Lib.hid KN
  have KA := Lib.hid KA
  have KB := Lib.hid KB
  have KC := Lib.hid KC
  have KD := Lib.hid KD
  have HS := Lib.hid (setOf_any v0 xs 15 n w h0 (by omega) (by omega))
  obtain ⟨A0, c0, rfl, _⟩ := h0
  have e1 : 1 + ((n : Int) - 1) = (n : Int) := by omega
  clear hax hay hxh hyh
  go_enter Try.func3, Try.ntmps3
  go_wp2_with fail
  refine (KN.out _).mono ?_
  rintro e w' ⟨rfl, rfl⟩
  go_wp2_with fail
  refine HS.out.mono ?_
  rintro e w1 ⟨v1, l, rfl, ho1, hN, hhi, hl, hb1⟩
  have HST : Hid (Set_ n l) := Lib.hid ⟨hN, hhi⟩
  have HB1 := Lib.hid hb1
  obtain ⟨A1, c1, rfl, hc1, hc2⟩ := own_slice ho1
  have HL1 := Lib.hid ho1
  clear ho1 hN hhi hb1 HS KN
  go_wp2_with fail
  refine (KA.out _).mono ?_
  rintro e w' ⟨rfl, rfl⟩
  have B0 := Blk.new w1 27 #[.int .i64 (xl : Int), .int .i64 0]
  have HLa := Lib.hid (HL1.out.alloc (.cells #[.int .i64 (xl : Int), .int .i64 0] 27))
  have HBa := Lib.hid (HB1.out.alloc HB1.out.size (.cells #[.int .i64 (xl : Int), .int .i64 0] 27))
  have hgl0 := HL1.out.lt
  have hne0 : (Value.slice A1 l.length c1).ownBlock ≠ some w1.heap.size := fun e => by have := (hgl0 _ e).2; omega
  have hws := HB1.out.size
  skip
  clear hgl0
  go_wp2_with fail
  generalize w1.alloc (.cells #[.int .i64 (xl : Int), .int .i64 0] 27) = Vgx at *
  generalize w1.heap.size = gx at *
  replace B0 := B0.drew
  replace HLa := Lib.hid (World.ownsRow.drew HLa.out)
  replace HBa := Lib.hid HBa.out.drew
  have f0 : Vgx.drew.cell? ⟨gx, 0, none⟩ = some (.int .i64 (xl : Int)) := B0.cell 0
  have f1 : Vgx.drew.cell? ⟨gx, 1, none⟩ = some (.int .i64 0) := B0.cell 1
  have z1 := B0.frozen 1
  have hw1 : IntKind.i64.wrap ((n : Int) - (xl : Int)) = (n : Int) - (xl : Int) := IntWalk.i64_in _ (by omega)
  have hw2 : IntKind.i64.wrap ((n : Int) - (xl : Int) + 1) = (n : Int) - (xl : Int) + 1 := IntWalk.i64_in _ (by omega)
  have hw3 : IntKind.i64.wrap ((xl : Int) + (xd : Int)) = (xh : Int) := by rw [HAX.out]; exact IntWalk.i64_in _ (by omega)
  refine wp_region_still_tail 11 (by kernel_rfl) (by kernel_rfl) ?_
  change wpStill _ _ Vgx.drew _ _ _
  simp only [List.take_succ_cons, List.take_zero, List.drop_succ_cons, List.drop_zero]
  skip
  generalize hW : Vgx.drew = Ugx at *
  iterate 8 still_step
  still_call ((KB.out _).mono fun _ _ hh => ⟨hh.1, hh.2.symm⟩)
  iterate 2 still_step
  refine wpStill_nil ?_
  change wpList _ _ _ _ _ Vgx.drew
  rw [hW]
  clear hW hw1 hw2 hw3
  have Bgx : Blk (Ugx.setCell ⟨gx, 1, none⟩ (.int .i64 (xh : Int))) gx 27 #[.int .i64 (xl : Int), .int .i64 (xh : Int)] := B0.set_ 1 _
  have HLgx := Lib.hid (own_far HLa.out ⟨gx, 1, none⟩ (.int .i64 (xh : Int)) hne0)
  have HBgx := Lib.hid (HBa.out.setCell (p := ⟨gx, 1, none⟩) hws (.int .i64 (xh : Int)))
  skip
  go_wp2_with fail
  generalize Ugx.setCell ⟨gx, 1, none⟩ (.int .i64 (xh : Int)) = Xgx at *
  clear B0 HLa HBa f0 f1 z1 hne0 hws KA KB
  clear HL1 HB1
  go_wp2_with fail
  refine (KC.out _).mono ?_
  rintro e w' ⟨rfl, rfl⟩
  have B0 := Blk.new Xgx 27 #[.int .i64 (yl : Int), .int .i64 0]
  have HLa := Lib.hid (HLgx.out.alloc (.cells #[.int .i64 (yl : Int), .int .i64 0] 27))
  have HBa := Lib.hid (HBgx.out.alloc HBgx.out.size (.cells #[.int .i64 (yl : Int), .int .i64 0] 27))
  have hgl0 := HLgx.out.lt
  have hne0 : (Value.slice A1 l.length c1).ownBlock ≠ some Xgx.heap.size := fun e => by have := (hgl0 _ e).2; omega
  have hws := HBgx.out.size
  (have hxy := Bgx.lt; replace Bgx := Bgx.alloc (.cells #[.int .i64 (yl : Int), .int .i64 0] 27))
  clear hgl0
  go_wp2_with fail
  generalize Xgx.alloc (.cells #[.int .i64 (yl : Int), .int .i64 0] 27) = Vgy at *
  generalize Xgx.heap.size = gy at *
  replace B0 := B0.drew
  replace HLa := Lib.hid (World.ownsRow.drew HLa.out)
  replace HBa := Lib.hid HBa.out.drew
  have f0 : Vgy.drew.cell? ⟨gy, 0, none⟩ = some (.int .i64 (yl : Int)) := B0.cell 0
  have f1 : Vgy.drew.cell? ⟨gy, 1, none⟩ = some (.int .i64 0) := B0.cell 1
  have z1 := B0.frozen 1
  have hw1 : IntKind.i64.wrap ((n : Int) - (yl : Int)) = (n : Int) - (yl : Int) := IntWalk.i64_in _ (by omega)
  have hw2 : IntKind.i64.wrap ((n : Int) - (yl : Int) + 1) = (n : Int) - (yl : Int) + 1 := IntWalk.i64_in _ (by omega)
  have hw3 : IntKind.i64.wrap ((yl : Int) + (yd : Int)) = (yh : Int) := by rw [HAY.out]; exact IntWalk.i64_in _ (by omega)
  refine wp_region_still_tail 11 (by kernel_rfl) (by kernel_rfl) ?_
  change wpStill _ _ Vgy.drew _ _ _
  simp only [List.take_succ_cons, List.take_zero, List.drop_succ_cons, List.drop_zero]
  replace Bgx := Bgx.drew
  generalize hW : Vgy.drew = Ugy at *
  iterate 8 still_step
  still_call ((KD.out _).mono fun _ _ hh => ⟨hh.1, hh.2.symm⟩)
  iterate 2 still_step
  refine wpStill_nil ?_
  change wpList _ _ _ _ _ Vgy.drew
  rw [hW]
  clear hW hw1 hw2 hw3
  have Bgy : Blk (Ugy.setCell ⟨gy, 1, none⟩ (.int .i64 (yh : Int))) gy 27 #[.int .i64 (yl : Int), .int .i64 (yh : Int)] := B0.set_ 1 _
  have HLgy := Lib.hid (own_far HLa.out ⟨gy, 1, none⟩ (.int .i64 (yh : Int)) hne0)
  have HBgy := Lib.hid (HBa.out.setCell (p := ⟨gy, 1, none⟩) hws (.int .i64 (yh : Int)))
  replace Bgx := Bgx.far (p := ⟨gy, 1, none⟩) (Nat.ne_of_lt hxy) (.int .i64 (yh : Int))
  go_wp2_with fail
  generalize Ugy.setCell ⟨gy, 1, none⟩ (.int .i64 (yh : Int)) = Xgy at *
  clear B0 HLa HBa f0 f1 z1 hne0 hws KC KD
  clear HLgx HBgx
  have hx : (⟨xl, xh⟩ : Sp).lo ≤ (⟨xl, xh⟩ : Sp).hi ∧ (⟨xl, xh⟩ : Sp).hi ≤ n := hxb
  have hy : (⟨yl, yh⟩ : Sp).lo ≤ (⟨yl, yh⟩ : Sp).hi ∧ (⟨yl, yh⟩ : Sp).hi ≤ n := hyb
  have HE0 := Lib.hid (Below.refl Xgy.heap.size Xgy)
  have L0 := Lib.hid (own_below HLgy.out HE0.out)
  have Z0 := Bgx.below HE0.out Bgx.lt
  refine wp_region_ph [([0, 1, 3], [2]), ([], [4]), ([5, 6, 7, 8, 9], [])] (fun w' => Below Xgy.heap.size Xgy w') (by kernel_rfl) (by kernel_rfl) (fun _ _ h1 h2 => bstep h1 h2) (by repeat' (first | exact Below.refl _ _ | apply below_drewN)) ?_
  intro ι F hne hF W0 hW0 hI0
  have c0 : ∀ i, (F i).cell? ⟨gx, 0, none⟩ = some (.int .i64 (xl : Int)) := fun i => (Z0.below (hF i) Z0.lt).cell 0
  have c1' : ∀ i, (F i).cell? ⟨gx, 1, none⟩ = some (.int .i64 (xh : Int)) := fun i => (Z0.below (hF i) Z0.lt).cell 1
  (refine wpPh_cons ?_; simp only [pickOps, List.getElem?_cons_succ, List.getElem?_cons_zero])
  repeat (refine wpB_step (fun K hK => ?_); go_simp; first | (refine hK _ ?_; clear hK K) | (apply Exists.intro; refine ⟨fun _ => ?_, hK _ ?_⟩; (fail); clear hK K))
  refine wpB_nil ?_
  intro w3 hw3 hI3
  have HI3 := Lib.hid hI3
  clear c0 c1' hw3 hI3 hF
  have HRL := Lib.hid (Reads.of_own (own_below L0.out HI3.out))
  refine wpRB_copy rfl (.tmp 69) _ rfl 27 _ 2 16 Try.underlying24 span_info rfl (by decide) A1 l.length _ (cellsOf spc l) rfl HRL.out (cellsOf_oneCell spc_one l) (by omega) (by omega) ?_
  intro v4 w4 ho4 hb4
  have HI4 := Lib.hid (bstep HI3.out hb4)
  refine ⟨HI4.out, ?_⟩
  intro w5 hw5 hI5
  have HO5 := Lib.hid (own_below ho4 hw5)
  have HI5 := Lib.hid hI5
  clear ho4 hb4 hw5 hI5
  refine wpRB_nil ?_
  (refine wpPh_cons ?_; simp only [pickOps, List.getElem?_cons_succ, List.getElem?_cons_zero])
  repeat (refine wpB_step (fun K hK => ?_); go_simp; first | (refine hK _ ?_; clear hK K) | (apply Exists.intro; refine ⟨fun _ => ?_, hK _ ?_⟩; (fail); clear hK K))
  refine wpB_nil ?_
  intro w6 hw6 hI6
  have HO6 := Lib.hid (own_below HO5.out hw6)
  have HI6 := Lib.hid hI6
  clear hw6 hI6
  refine wpRB_step (fun K hK => ?_)
  go_simp
  refine (add_any n v4 l ⟨xl, xh⟩ w6 w3.heap.size HO6.out (by omega) (by omega) HST.out hx).mono ?_
  rintro e w7 ⟨v7, op1, rfl, ho7, hiw, hb7⟩
  have HI7 := Lib.hid (bstep HI6.out hb7)
  refine ⟨_, rfl, hK _ _ ⟨HI7.out, ?_⟩⟩
  clear hK K
  intro w8 hw8 hI8
  have HO8 := Lib.hid (own_below ho7 hw8)
  have HI8 := Lib.hid hI8
  have HIp1 := Lib.hid hiw
  have HSp1 : Hid (Set_ n op1) := Lib.hid (hiw.set_ HST.out hxb.2)
  have hlp1 := hiw.2.2
  obtain ⟨Ap1, cp1, rfl, hA71, hA72⟩ := own_slice ho7
  clear hw8 hI8 ho7 hb7 hiw hA71 hA72
  refine wpRB_nil ?_
  (refine wpPh_cons ?_; simp only [pickOps, List.getElem?_cons_succ, List.getElem?_cons_zero])
  repeat (refine wpB_step (fun K hK => ?_); go_simp; first | (refine hK _ ?_; clear hK K) | (apply Exists.intro; refine ⟨fun _ => ?_, hK _ ?_⟩; (fail); clear hK K))
  refine wpB_nil ?_
  intro w9 hw9 hI9
  have HRp1 := Lib.hid (own_mono (base' := 0) (own_below HO8.out hw9) (Nat.zero_le _))
  have HE9 := Lib.hid (bstep HE0.out hI9)
  have HT9 := Lib.hid hI9
  clear hw9 hI9
  refine wpRB_nil ?_
  refine wpPh_nil ?_
  clear hne F hI0 hW0 HO5 HO6 HO8 HI3 HI4 HI5 HI6 HI7 HI8 HRL L0 Z0
  have Z0 := Bgy.below HE9.out Bgy.lt
  have b0 : w9.cell? ⟨gy, 0, none⟩ = some (.int .i64 (yl : Int)) := Z0.cell 0
  have b1 : w9.cell? ⟨gy, 1, none⟩ = some (.int .i64 (yh : Int)) := Z0.cell 1
  have HT := Lib.hid (add_any n (.slice Ap1 op1.length cp1) op1 ⟨yl, yh⟩ w9 0 HRp1.out (by omega) (by omega) HSp1.out hy)
  unfold spv at HT
  go_wp2_with fail
  refine HT.out.mono ?_
  rintro e w10 ⟨v10, op2, rfl, ho, hi2, hb⟩
  have HE10 := Lib.hid (bstep HE9.out hb)
  have HRp2 := Lib.hid (own_mono (base' := 0) ho (Nat.zero_le _))
  have HIp2 := Lib.hid hi2
  have HSp2 : Hid (Set_ n op2) := Lib.hid (hi2.set_ HSp1.out hyb.2)
  have hlp2 := hi2.2.2
  obtain ⟨Ap2, cp2, rfl, hA71, hA72⟩ := own_slice ho
  clear ho hi2 hb hA71 hA72 HT Z0 b0 b1
  go_wp2_with fail
  have L0 := Lib.hid (own_below HLgy.out HE10.out)
  have Z0 := Bgy.below HE10.out Bgy.lt
  refine wp_region_ph [([0, 1, 3], [2]), ([], [4]), ([5, 6, 7, 8, 9], [])] (fun w' => Below w10.heap.size w10 w') (by kernel_rfl) (by kernel_rfl) (fun _ _ h1 h2 => bstep h1 h2) (by repeat' (first | exact Below.refl _ _ | apply below_drewN)) ?_
  intro ι F hne hF W0 hW0 hI0
  have c0 : ∀ i, (F i).cell? ⟨gy, 0, none⟩ = some (.int .i64 (yl : Int)) := fun i => (Z0.below (hF i) Z0.lt).cell 0
  have c1' : ∀ i, (F i).cell? ⟨gy, 1, none⟩ = some (.int .i64 (yh : Int)) := fun i => (Z0.below (hF i) Z0.lt).cell 1
  (refine wpPh_cons ?_; simp only [pickOps, List.getElem?_cons_succ, List.getElem?_cons_zero])
  repeat (refine wpB_step (fun K hK => ?_); go_simp; first | (refine hK _ ?_; clear hK K) | (apply Exists.intro; refine ⟨fun _ => ?_, hK _ ?_⟩; (fail); clear hK K))
  refine wpB_nil ?_
  intro w3 hw3 hI3
  have HI3 := Lib.hid hI3
  clear c0 c1' hw3 hI3 hF
  have HRL := Lib.hid (Reads.of_own (own_below L0.out HI3.out))
  refine wpRB_copy rfl (.tmp 84) _ rfl 27 _ 2 16 Try.underlying24 span_info rfl (by decide) A1 l.length _ (cellsOf spc l) rfl HRL.out (cellsOf_oneCell spc_one l) (by omega) (by omega) ?_
  intro v4 w4 ho4 hb4
  have HI4 := Lib.hid (bstep HI3.out hb4)
  refine ⟨HI4.out, ?_⟩
  intro w5 hw5 hI5
  have HO5 := Lib.hid (own_below ho4 hw5)
  have HI5 := Lib.hid hI5
  clear ho4 hb4 hw5 hI5
  refine wpRB_nil ?_
  (refine wpPh_cons ?_; simp only [pickOps, List.getElem?_cons_succ, List.getElem?_cons_zero])
  repeat (refine wpB_step (fun K hK => ?_); go_simp; first | (refine hK _ ?_; clear hK K) | (apply Exists.intro; refine ⟨fun _ => ?_, hK _ ?_⟩; (fail); clear hK K))
  refine wpB_nil ?_
  intro w6 hw6 hI6
  have HO6 := Lib.hid (own_below HO5.out hw6)
  have HI6 := Lib.hid hI6
  clear hw6 hI6
  refine wpRB_step (fun K hK => ?_)
  go_simp
  refine (add_any n v4 l ⟨yl, yh⟩ w6 w3.heap.size HO6.out (by omega) (by omega) HST.out hy).mono ?_
  rintro e w7 ⟨v7, oq1, rfl, ho7, hiw, hb7⟩
  have HI7 := Lib.hid (bstep HI6.out hb7)
  refine ⟨_, rfl, hK _ _ ⟨HI7.out, ?_⟩⟩
  clear hK K
  intro w8 hw8 hI8
  have HO8 := Lib.hid (own_below ho7 hw8)
  have HI8 := Lib.hid hI8
  have HIq1 := Lib.hid hiw
  have HSq1 : Hid (Set_ n oq1) := Lib.hid (hiw.set_ HST.out hyb.2)
  have hlq1 := hiw.2.2
  obtain ⟨Aq1, cq1, rfl, hA71, hA72⟩ := own_slice ho7
  clear hw8 hI8 ho7 hb7 hiw hA71 hA72
  refine wpRB_nil ?_
  (refine wpPh_cons ?_; simp only [pickOps, List.getElem?_cons_succ, List.getElem?_cons_zero])
  repeat (refine wpB_step (fun K hK => ?_); go_simp; first | (refine hK _ ?_; clear hK K) | (apply Exists.intro; refine ⟨fun _ => ?_, hK _ ?_⟩; (fail); clear hK K))
  refine wpB_nil ?_
  intro w11 hw9 hI9
  have HRq1 := Lib.hid (own_mono (base' := 0) (own_below HO8.out hw9) (Nat.zero_le _))
  have HE11 := Lib.hid (bstep HE10.out hI9)
  have HT11 := Lib.hid hI9
  clear hw9 hI9
  refine wpRB_nil ?_
  refine wpPh_nil ?_
  clear hne F hI0 hW0 HO5 HO6 HO8 HI3 HI4 HI5 HI6 HI7 HI8 HRL L0 Z0
  have HRp2 := Lib.hid (own_below HRp2.out HT11.out)
  have Z0 := Bgx.below HE11.out Bgx.lt
  have b0 : w11.cell? ⟨gx, 0, none⟩ = some (.int .i64 (xl : Int)) := Z0.cell 0
  have b1 : w11.cell? ⟨gx, 1, none⟩ = some (.int .i64 (xh : Int)) := Z0.cell 1
  have HT := Lib.hid (add_any n (.slice Aq1 oq1.length cq1) oq1 ⟨xl, xh⟩ w11 0 HRq1.out (by omega) (by omega) HSq1.out hx)
  unfold spv at HT
  go_wp2_with fail
  refine HT.out.mono ?_
  rintro e w12 ⟨v12, oq2, rfl, ho, hi2, hb⟩
  have HE12 := Lib.hid (bstep HE11.out hb)
  have HRq2 := Lib.hid (own_mono (base' := 0) ho (Nat.zero_le _))
  have HIq2 := Lib.hid hi2
  have HSq2 : Hid (Set_ n oq2) := Lib.hid (hi2.set_ HSq1.out hxb.2)
  have hlq2 := hi2.2.2
  obtain ⟨Aq2, cq2, rfl, hA71, hA72⟩ := own_slice ho
  have HRp2 := Lib.hid (own_below HRp2.out hb)
  clear ho hi2 hb hA71 hA72 HT Z0 b0 b1
  obtain rfl : op2 = oq2 := with_comm HIp1.out HIp2.out HIq1.out HIq2.out
  have Z0 := Bgx.below HE12.out Bgx.lt
  have b0 : w12.cell? ⟨gx, 0, none⟩ = some (.int .i64 (xl : Int)) := Z0.cell 0
  have b1 : w12.cell? ⟨gx, 1, none⟩ = some (.int .i64 (xh : Int)) := Z0.cell 1
  have HT := Lib.hid (cut_any n (.slice Ap2 op2.length cp2) op2 ⟨xl, xh⟩ w12 0 HRp2.out (by omega) (by omega) HSp2.out hx)
  unfold spv at HT
  go_wp2_with fail
  refine HT.out.mono ?_
  rintro e w13 ⟨v13, ou1, rfl, ho, hi2, hb⟩
  have HE13 := Lib.hid (bstep HE12.out hb)
  have HRu1 := Lib.hid (own_mono (base' := 0) ho (Nat.zero_le _))
  have HIu1 := Lib.hid hi2
  have HSu1 : Hid (Set_ n ou1) := Lib.hid (hi2.set_ HSp2.out)
  have hlu1 := hi2.2.2
  obtain ⟨Au1, cu1, rfl, hA71, hA72⟩ := own_slice ho
  have HRp2 := Lib.hid (own_below HRp2.out hb)
  have HRq2 := Lib.hid (own_below HRq2.out hb)
  clear ho hi2 hb hA71 hA72 HT Z0 b0 b1
  have Z0 := Bgy.below HE13.out Bgy.lt
  have b0 : w13.cell? ⟨gy, 0, none⟩ = some (.int .i64 (yl : Int)) := Z0.cell 0
  have b1 : w13.cell? ⟨gy, 1, none⟩ = some (.int .i64 (yh : Int)) := Z0.cell 1
  have HT := Lib.hid (cut_any n (.slice Au1 ou1.length cu1) ou1 ⟨yl, yh⟩ w13 0 HRu1.out (by omega) (by omega) HSu1.out hy)
  unfold spv at HT
  go_wp2_with fail
  refine HT.out.mono ?_
  rintro e w14 ⟨v14, ou2, rfl, ho, hi2, hb⟩
  have HE14 := Lib.hid (bstep HE13.out hb)
  have HRu2 := Lib.hid (own_mono (base' := 0) ho (Nat.zero_le _))
  have HIu2 := Lib.hid hi2
  have HSu2 : Hid (Set_ n ou2) := Lib.hid (hi2.set_ HSu1.out)
  have hlu2 := hi2.2.2
  obtain ⟨Au2, cu2, rfl, hA71, hA72⟩ := own_slice ho
  have HRp2 := Lib.hid (own_below HRp2.out hb)
  have HRq2 := Lib.hid (own_below HRq2.out hb)
  clear ho hi2 hb hA71 hA72 HT Z0 b0 b1
  have Z0 := Bgy.below HE14.out Bgy.lt
  have b0 : w14.cell? ⟨gy, 0, none⟩ = some (.int .i64 (yl : Int)) := Z0.cell 0
  have b1 : w14.cell? ⟨gy, 1, none⟩ = some (.int .i64 (yh : Int)) := Z0.cell 1
  have HT := Lib.hid (cut_any n (.slice Aq2 op2.length cq2) op2 ⟨yl, yh⟩ w14 0 HRq2.out (by omega) (by omega) HSp2.out hy)
  unfold spv at HT
  go_wp2_with fail
  refine HT.out.mono ?_
  rintro e w15 ⟨v15, ov1, rfl, ho, hi2, hb⟩
  have HE15 := Lib.hid (bstep HE14.out hb)
  have HRv1 := Lib.hid (own_mono (base' := 0) ho (Nat.zero_le _))
  have HIv1 := Lib.hid hi2
  have HSv1 : Hid (Set_ n ov1) := Lib.hid (hi2.set_ HSp2.out)
  have hlv1 := hi2.2.2
  obtain ⟨Av1, cv1, rfl, hA71, hA72⟩ := own_slice ho
  have HRp2 := Lib.hid (own_below HRp2.out hb)
  have HRq2 := Lib.hid (own_below HRq2.out hb)
  have HRu2 := Lib.hid (own_below HRu2.out hb)
  clear ho hi2 hb hA71 hA72 HT Z0 b0 b1
  have Z0 := Bgx.below HE15.out Bgx.lt
  have b0 : w15.cell? ⟨gx, 0, none⟩ = some (.int .i64 (xl : Int)) := Z0.cell 0
  have b1 : w15.cell? ⟨gx, 1, none⟩ = some (.int .i64 (xh : Int)) := Z0.cell 1
  have HT := Lib.hid (cut_any n (.slice Av1 ov1.length cv1) ov1 ⟨xl, xh⟩ w15 0 HRv1.out (by omega) (by omega) HSv1.out hx)
  unfold spv at HT
  go_wp2_with fail
  refine HT.out.mono ?_
  rintro e w16 ⟨v16, ov2, rfl, ho, hi2, hb⟩
  have HE16 := Lib.hid (bstep HE15.out hb)
  have HRv2 := Lib.hid (own_mono (base' := 0) ho (Nat.zero_le _))
  have HIv2 := Lib.hid hi2
  have HSv2 : Hid (Set_ n ov2) := Lib.hid (hi2.set_ HSv1.out)
  have hlv2 := hi2.2.2
  obtain ⟨Av2, cv2, rfl, hA71, hA72⟩ := own_slice ho
  have HRp2 := Lib.hid (own_below HRp2.out hb)
  have HRq2 := Lib.hid (own_below HRq2.out hb)
  have HRu2 := Lib.hid (own_below HRu2.out hb)
  clear ho hi2 hb hA71 hA72 HT Z0 b0 b1
  obtain rfl : ou2 = ov2 := cut_comm HIu1.out HIu2.out HIv1.out HIv2.out
  have M1 := Lib.hid (fun W (h : CRow 2 spc W (.slice Ap2 op2.length cp2) op2) => spansMay_any n _ op2 W h (by omega) (by omega) HSp2.out.nrm HSp2.out.hi)
  have M2 := Lib.hid (fun W (h : CRow 2 spc W (.slice Au2 ou2.length cu2) ou2) => spansMay_any n _ ou2 W h (by omega) (by omega) HSu2.out.nrm HSu2.out.hi)
  go_wp2_with fail
  refine (M1.out _ (CRow.of_own spc_len HRp2.out)).mono ?_
  rintro e w17 ⟨rfl, hb17⟩
  have HE17 := Lib.hid (bstep HE16.out hb17)
  have HRp2 := Lib.hid (own_below HRp2.out hb17)
  have HRq2 := Lib.hid (own_below HRq2.out hb17)
  have HRu2 := Lib.hid (own_below HRu2.out hb17)
  have HRv2 := Lib.hid (own_below HRv2.out hb17)
  clear hb17
  go_wp2_with fail
  refine (M2.out _ (CRow.of_own spc_len HRu2.out)).mono ?_
  rintro e w18 ⟨rfl, hb18⟩
  have HE18 := Lib.hid (bstep HE17.out hb18)
  have HRp2 := Lib.hid (own_below HRp2.out hb18)
  have HRq2 := Lib.hid (own_below HRq2.out hb18)
  have HRu2 := Lib.hid (own_below HRu2.out hb18)
  have HRv2 := Lib.hid (own_below HRv2.out hb18)
  have HB18 := Lib.hid (bstep HBgy.out HE18.out)
  clear hb18
  go_wp2_with fail
  go_loopw [29] (fun vi wq => ∃ j q : Nat, vi = .int .i64 j ∧ j ≤ op2.length ∧ wq = w18.drewN q) (fun vi _ => op2.length - (intOf vi).toNat)
  case atStart => exact ⟨0, 0, rfl, Nat.zero_le _, rfl⟩
  case round =>
    obtain ⟨j, q, rfl, hj, rfl⟩ := hrel
    by_cases hjl : j < op2.length
    · obtain ⟨ga, ca, hva, hga, hgal⟩ := HRp2.out.form (by omega)
      obtain ⟨gb, cb, hvb, hgb, hgbl⟩ := HRq2.out.form (by omega)
      injection hva with e1 _ e3
      subst e1
      injection hvb with e4 _ e6
      subst e4
      have x0 := HRp2.out.cells (g := ga) rfl (j * 2 + 0) _ ((cellsOf_at spc_len op2 j hjl 0 (by decide)).trans rfl)
      have x1 := HRp2.out.cells (g := ga) rfl (j * 2 + 1) _ ((cellsOf_at spc_len op2 j hjl 1 (by decide)).trans rfl)
      have z0 := HRq2.out.cells (g := gb) rfl (j * 2 + 0) _ ((cellsOf_at spc_len op2 j hjl 0 (by decide)).trans rfl)
      have z1 := HRq2.out.cells (g := gb) rfl (j * 2 + 1) _ ((cellsOf_at spc_len op2 j hjl 1 (by decide)).trans rfl)
      rw [add_head] at x0 x1 z0 z1
      replace x0 : w18.cell? ⟨ga, j * 2, none⟩ = some (.int .i64 (op2[j].lo : Int)) := x0
      replace x1 : w18.cell? ⟨ga, j * 2 + 1, none⟩ = some (.int .i64 (op2[j].hi : Int)) := x1
      replace z0 : w18.cell? ⟨gb, j * 2, none⟩ = some (.int .i64 (op2[j].lo : Int)) := z0
      replace z1 : w18.cell? ⟨gb, j * 2 + 1, none⟩ = some (.int .i64 (op2[j].hi : Int)) := z1
      have hj0 : (0 : Int) ≤ (j : Int) := by omega
      have hj1 : (j : Int) < (op2.length : Int) := by omega
      generalize op2[j].lo = u0 at *
      generalize op2[j].hi = u1 at *
      clear e3 e6
      go_wp2_with fail
      go_quiet (fail)
      go_wp2_with fail
      go_roundw
      case rel => exact ⟨j + 1, _, by go_num, by omega, rfl⟩
      case measure => simp [intOf]; omega
    · obtain rfl : j = op2.length := by omega
      go_wp2_with fail
      go_loopw [30] (fun vi wq => ∃ j q : Nat, vi = .int .i64 j ∧ j ≤ ou2.length ∧ wq = w18.drewN q) (fun vi _ => ou2.length - (intOf vi).toNat)
      case atStart => exact ⟨0, q, rfl, Nat.zero_le _, rfl⟩
      case round =>
        obtain ⟨j, q, rfl, hj, rfl⟩ := hrel
        by_cases hjl : j < ou2.length
        · obtain ⟨ga, ca, hva, hga, hgal⟩ := HRu2.out.form (by omega)
          obtain ⟨gb, cb, hvb, hgb, hgbl⟩ := HRv2.out.form (by omega)
          injection hva with e1 _ e3
          subst e1
          injection hvb with e4 _ e6
          subst e4
          have x0 := HRu2.out.cells (g := ga) rfl (j * 2 + 0) _ ((cellsOf_at spc_len ou2 j hjl 0 (by decide)).trans rfl)
          have x1 := HRu2.out.cells (g := ga) rfl (j * 2 + 1) _ ((cellsOf_at spc_len ou2 j hjl 1 (by decide)).trans rfl)
          have z0 := HRv2.out.cells (g := gb) rfl (j * 2 + 0) _ ((cellsOf_at spc_len ou2 j hjl 0 (by decide)).trans rfl)
          have z1 := HRv2.out.cells (g := gb) rfl (j * 2 + 1) _ ((cellsOf_at spc_len ou2 j hjl 1 (by decide)).trans rfl)
          rw [add_head] at x0 x1 z0 z1
          replace x0 : w18.cell? ⟨ga, j * 2, none⟩ = some (.int .i64 (ou2[j].lo : Int)) := x0
          replace x1 : w18.cell? ⟨ga, j * 2 + 1, none⟩ = some (.int .i64 (ou2[j].hi : Int)) := x1
          replace z0 : w18.cell? ⟨gb, j * 2, none⟩ = some (.int .i64 (ou2[j].lo : Int)) := z0
          replace z1 : w18.cell? ⟨gb, j * 2 + 1, none⟩ = some (.int .i64 (ou2[j].hi : Int)) := z1
          have hj0 : (0 : Int) ≤ (j : Int) := by omega
          have hj1 : (j : Int) < (ou2.length : Int) := by omega
          generalize ou2[j].lo = u0 at *
          generalize ou2[j].hi = u1 at *
          clear e3 e6
          go_wp2_with fail
          go_quiet (fail)
          go_wp2_with fail
          go_roundw
          case rel => exact ⟨j + 1, _, by go_num, by omega, rfl⟩
          case measure => simp [intOf]; omega
        · obtain rfl : j = ou2.length := by omega
          go_wp2_with fail
          go_ret
          exact ⟨rfl, below_drewN HB18.out _⟩
end Go.Proofs.Ytddbhoilhapljaa
