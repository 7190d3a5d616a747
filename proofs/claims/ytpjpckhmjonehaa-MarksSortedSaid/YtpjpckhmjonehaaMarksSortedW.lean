/-
  The law MarksSorted, walked: the marks are put in order, and the nearest one is found.
-/
import Derived.Test.YtpjpckhmjonehaaMsP
import Derived.BigQuiet
import Derived.Deep.QuietTactic
namespace Go.Proofs.Ytpjpckhmjonehaa
open Go.RowKit
set_option linter.unusedVariables false
set_option linter.unusedSimpArgs false

theorem sbool_info : (Try.prog.info? 4).map (fun i => (i.zero, i.size, i.bytes)) = some (some (.bool false), 1, 1) := by kernel_rfl
set_option maxRecDepth 100000 in
set_option maxHeartbeats 16000000 in
theorem marksSorted_walk (w : World) (v0 : Value) (xs : List Int) (h0 : Row .i64 w v0 xs) (size : Int) (hsize : -9223372036854775808 ≤ size ∧ size ≤ 9223372036854775807) (at_ : Int) (hat : -9223372036854775808 ≤ at_ ∧ at_ ≤ 9223372036854775807) :
    Calls Try.prog 3 #[v0, .int .i64 size, .int .i64 at_] w fun e w' => e = .returned (.bool true) ∧ Below w.heap.size w w' := by
  have hp := fun W => picked_any size 100 W hsize (by omega) (by omega)
  have hm := Int.emod_nonneg size (show (100 : Int) ≠ 0 by omega)
  have hm2 := Int.emod_lt_of_pos size (show (0 : Int) < 100 by omega)
  generalize size % 100 = y at *
  obtain ⟨n, rfl⟩ : ∃ n : Nat, y = (n : Int) := ⟨y.toNat, by omega⟩
  have HP := Lib.hid hp
  have hp2 := fun W => picked_any at_ ((n : Int) + 1) W hat (by omega) (by omega)
  have hm3 := Int.emod_nonneg at_ (show ((n : Int) + 1) ≠ 0 by omega)
  have hm4 := Int.emod_lt_of_pos at_ (show (0 : Int) < (n : Int) + 1 by omega)
  generalize at_ % ((n : Int) + 1) = z at *
  obtain ⟨k, rfl⟩ : ∃ k : Nat, z = (k : Int) := ⟨z.toNat, by omega⟩
  have HP2 := Lib.hid hp2
  have HM := Lib.hid (fun W (h : Row .i64 W v0 xs) => marks_ownk v0 xs 30 n W h (by omega) (by omega))
  have H0 := Lib.hid h0
  clear hp hm hp2 hm3 h0
  go_enter Try.func3, Try.ntmps3
  go_wp2_with fail
  refine (HP.out _).mono ?_
  rintro e w' ⟨rfl, rfl⟩
  go_wp2_with fail
  refine (HM.out _ H0.out).mono ?_
  rintro e w1 ⟨vm, ms0, rfl, ho1, hmn, hml, hb1⟩
  have HO1 := Lib.hid ho1
  have HMN := Lib.hid hmn
  have HB1 := Lib.hid hb1
  clear ho1 hmn hb1 HM H0 HP
  obtain ⟨Am, cm, rfl, hcm1, hcm2⟩ := own_slice HO1.out
  go_upto_region 3 with (at_builtin; go_loud (refine wpList_appN rfl (.tmp 21) (.tmp 25) _ rfl w.heap.size 27 _ 2 16 Try.underlying24 mark_info rfl (by decide) (.slice Am ms0.length cm) ms0.length _ rfl HO1.out [.int .i64 ((n : Int) / 2), .bool false] rfl _ rfl (by simp) rfl (by simp [Value.oneCell']) (by omega) (by omega) HB1.out.size ?_; intro v2 w2 ho2 hB2 hg2; have HO2 := Lib.hid ho2; have HB2 := Lib.hid (hB2 _ (Nat.le_refl _) _ HB1.out); clear ho2 hB2 hg2))
  obtain ⟨ms, hms⟩ : ∃ ms : List Mk, ms = ms0 ++ [⟨n / 2, false⟩] := ⟨_, rfl⟩
  have HMS : Hid (w2.ownsRow w.heap.size 27 2 v2 ms.length (cellsOf mkc ms)) := Lib.hid (by
    rw [hms, cellsOf_snoc, List.length_append, List.length_singleton]; have h9 := HO2.out; rw [show (n : Int) / 2 = ((n / 2 : Nat) : Int) by omega] at h9; exact h9)
  have hl1 : ms.length ≤ 31 := by rw [hms, List.length_append, List.length_singleton]; omega
  have hl0 : 0 < ms.length := by rw [hms, List.length_append, List.length_singleton]; omega
  have HBD : Hid (∀ m ∈ ms, m.at_ ≤ 100000) := Lib.hid (fun m hm => by
    rw [hms] at hm
    rcases List.mem_append.1 hm with h | h
    · have := HMN.out m h; omega
    · rw [List.mem_singleton.1 h]; show n / 2 ≤ 100000; omega)
  clear hms HO2 HMN HO1 HB1
  go_wp2_with (at_builtin; refine wpList_copyC mkc_len mkc_one rfl (.tmp 28) _ rfl 27 _ 16 Try.underlying24 mark_info rfl (by decide) v2 ms rfl (CRow.of_own mkc_len HMS.out) (by omega) (by omega) ?_)
  intro v3 w3 ho3 hr3 hb3
  have HOR := Lib.hid (order_any v3 ms w3 hr3 hl0 (by omega))
  have HM3 := Lib.hid (own_below HMS.out hb3)
  have HB3 := Lib.hid (bstep HB2.out hb3)
  clear ho3 hr3 hb3 HB2 HMS
  go_wp2_with fail
  refine HOR.out.mono ?_
  rintro e w4 ⟨vo, l, rfl, hl2, hl3, ho4, hb4⟩
  have HIO := Lib.hid (inOrd_of ms l hl2 hl3)
  have hll : Hid (l.length = ms.length) := Lib.hid (by rw [hl2.length_eq, List.length_finRange])
  obtain ⟨Ao, co, rfl, hco1, hco2⟩ := own_slice ho4
  have HO4 := Lib.hid (Reads.of_own ho4)
  have HM4 := Lib.hid (own_below HM3.out hb4)
  have HB4 := Lib.hid (bstep HB3.out hb4)
  clear hl2 hl3 ho4 hb4 HOR HM3 HB3
  obtain ⟨Am2, cm2, rfl, hcm3, hcm4⟩ := own_slice HM4.out
  go_wp2_with fail
  refine (HP2.out _).mono ?_
  rintro e w' ⟨rfl, rfl⟩
  obtain ⟨bo, oo, rfl, hbo, hco⟩ := HO4.out.plain hl0 (by omega)
  have HOC : Hid (∀ i, i < ms.length → w4.cell? ⟨bo, oo + i, none⟩ = some (.int .i64 (ordAt l i : Int))) := Lib.hid (fun i hi => hco i _ (by rw [List.getElem?_map, List.getElem?_eq_getElem (by rw [hll.out]; exact hi), ordAt_at l i (by rw [hll.out]; exact hi)]; rfl))
  obtain ⟨bm, om, rfl, hbm, _⟩ := (Reads.of_own HM4.out).plain hl0 (by omega)
  have HMC : Hid (∀ q, q < ms.length → w4.cell? ⟨bm, om + q * 2, none⟩ = some (.int .i64 (plc ms q : Int))) := Lib.hid (fun q hq => by
    obtain ⟨b1, o1, ev, _, y0, _⟩ := CRow.at2 (x := fun m : Mk => Value.int .i64 (m.at_ : Int)) (y := fun m : Mk => Value.bool m.right) (Reads.of_own HM4.out) hq
    injection ev with ev
    injection ev with ev1 ev2 _
    subst ev1; subst ev2
    rw [plc_at ms q hq]; exact y0)
  have HPB : Hid (∀ q, q < ms.length → plc ms q ≤ 100000) := Lib.hid (fun q hq => by rw [plc_at ms q hq]; exact HBD.out _ (List.getElem_mem hq))
  clear hco
  have t1 : ((ms.length : Int) != (ms.length : Int)) = false := by simp
  have hmk : ∀ W : World, (Instr.makeSlice 31 (.int .i64 (ms.length : Int)) (.int .i64 (ms.length : Int))).run Try.prog W = .ok (.slice (some ⟨W.heap.size, 0, none⟩) ms.length ms.length) (W.alloc (.cells (madeCells #[.bool false] ms.length) 4)) :=
    fun W => run_make_row' (P := Try.prog) 31 4 (.bool false) 1 Try.underlying31 sbool_info rfl .i64 .i64 ms.length (by omega) (by omega) W
  go_wp2_with fail
  clear hmk t1
  have hrow0 := World.rowIs_made w4 (.bool false) ms.length 4
  have HBM := Lib.hid ((Below.refl w4.heap.size w4).alloc (Nat.le_refl _) (.cells (madeCells #[.bool false] ms.length) 4))
  have HCR := Lib.hid (CRow.of_own mkc_len HM4.out)
  clear HP2 HO4 HM4
  go_loopw [13, 14] (fun vf vi wr => ∃ (i : Nat) (f : Int), vi = .int .i64 (i : Int) ∧ i ≤ ms.length ∧ vf = .int .i64 f ∧ -1 ≤ f ∧ f ≤ 100000 ∧ Hid (FirstAt (ordAt l) (plc ms) k i f) ∧ wr.rowIs w4.heap.size 4 ms.length (fun q => .bool (toldO (ordAt l) i q)) ∧ Below w4.heap.size w4 wr) (fun _ vi _ => ms.length - (intOf vi).toNat)
  case atStart => exact ⟨0, -1, rfl, Nat.zero_le _, rfl, by omega, by omega, Lib.hid (first_zero _ _ _), hrow0.congr (fun q _ => by simp [toldO]), HBM.out⟩
  case round =>
    clear hrow0 HBM
    obtain ⟨i, f, rfl, hin, rfl, hf1, hf2, HF, hrow, hb⟩ := hrel
    have HROW := Lib.hid hrow
    have HB := Lib.hid hb
    clear hrow hb
    rcases Nat.lt_or_ge i ms.length with hlt | hge
    · have hql := HIO.out.lt i hlt
      have c0 := (HB.out.cell (p := ⟨bo, oo + i, none⟩) hbo).trans (HOC.out i hlt)
      have c1 := (HB.out.cell (p := ⟨bm, om + ordAt l i * 2, none⟩) hbm).trans (HMC.out _ hql)
      have hcs := HROW.out.cell (i := ordAt l i) hql
      rw [toldO_new HIO.out i hlt] at hcs
      have hpb := HPB.out _ hql
      have HTS := Lib.hid (toldO_succ (ordAt l) i)
      have HKEEP := Lib.hid (fun h => first_keep HF.out (i := i) h)
      have HLOW := Lib.hid (fun h1 h2 => first_low HF.out (i := i) h1 h2)
      have HNEW := Lib.hid (fun h1 h2 => first_new HF.out (i := i) h1 h2)
      have k1 : (i : Int) < (ms.length : Int) := by omega
      have k2 : (0 : Int) ≤ (i : Int) := by omega
      rcases Nat.eq_zero_or_pos i with hi0 | hi0
      · have z1 : decide ((0 : Int) < (i : Int)) = false := decide_eq_false (by omega)
        have z2 : decide (0 < i) = false := decide_eq_false (by omega)
        clear hi0
        generalize plc ms (ordAt l i) = p at *
        generalize ordAt l i = q at *
        have y1 : (0 : Int) ≤ (q : Int) := by omega
        have y2 : (q : Int) < (ms.length : Int) := by omega
        have y3 : decide ((q : Int) < 0) = false := decide_eq_false (by omega)
        have y4 : decide ((ms.length : Int) ≤ (q : Int)) = false := decide_eq_false (by omega)
        have y5 : decide (ms.length ≤ q) = false := decide_eq_false (by omega)
        go_wp2_with fail
        go_quiet (fail)
        have HROW1 : Hid ((wr.drewN nq).rowIs w4.heap.size 4 ms.length (fun q => .bool (toldO (ordAt l) i q))) := HROW
        have HB1 := Lib.hid (below_drewN HB.out nq)
        have e0 : (wr.drewN nq).cell? ⟨bo, oo + i, none⟩ = some (.int .i64 (q : Int)) := c0
        have e1 : (wr.drewN nq).cell? ⟨bm, om + q * 2, none⟩ = some (.int .i64 (p : Int)) := c1
        clear c0 c1 hcs HROW HB
        generalize wr.drewN nq = W1 at *
        have hcs := HROW1.out.cell (i := q) hql
        have hfs := HROW1.out.frozen q
        have HROW2 := Lib.hid (HROW1.out.set q (.bool true))
        have HB2 := Lib.hid (HB1.out.setCell (p := ⟨w4.heap.size, q, none⟩) (Nat.le_refl _) (.bool true))
        have s0 : (W1.setCell ⟨w4.heap.size, q, none⟩ (.bool true)).cell? ⟨bo, oo + i, none⟩ = some (.int .i64 (q : Int)) := (World.cell?_setCell_other _ _ _ _ (fun e => by injection e with e; omega)).trans e0
        have s1 : (W1.setCell ⟨w4.heap.size, q, none⟩ (.bool true)).cell? ⟨bm, om + q * 2, none⟩ = some (.int .i64 (p : Int)) := (World.cell?_setCell_other _ _ _ _ (fun e => by injection e with e; omega)).trans e1
        have HR3 : Hid ((W1.setCell ⟨w4.heap.size, q, none⟩ (.bool true)).rowIs w4.heap.size 4 ms.length (fun t => .bool (toldO (ordAt l) (i + 1) t))) := Lib.hid (HROW2.out.congr (fun t _ => by
          rw [HTS.out]
          by_cases e : t = q
          · subst e; simp
          · rw [if_neg e]
            have : (q == t) = false := by rw [beq_eq_false_iff_ne]; exact fun h => e h.symm
            rw [this, Bool.or_false]))
        clear HROW1 HROW2 HB1 HTS
        rcases Decidable.em (f < 0) with hfn | hfn
        · by_cases hkp : p < k
          · have x1 : decide ((k : Int) ≤ (p : Int)) = false := decide_eq_false (by omega)
            have x2 : decide (k ≤ p) = false := decide_eq_false (by omega)
            go_wp2_with fail
            exact ⟨⟨i + 1, f, by go_num, hlt, rfl, hf1, hf2, Lib.hid (HLOW.out hfn hkp), HR3.out, HB2.out⟩, by simp [intOf]; omega⟩
          · have x1 : (k : Int) ≤ (p : Int) := by omega
            have hkp' : k ≤ p := by omega
            go_wp2_with fail
            exact ⟨⟨i + 1, (p : Int), by go_num, hlt, rfl, by omega, by omega, Lib.hid (HNEW.out hfn hkp'), HR3.out, HB2.out⟩, by simp [intOf]; omega⟩
        · have x0 : decide (f < 0) = false := decide_eq_false hfn
          go_wp2_with fail
          exact ⟨⟨i + 1, f, by go_num, hlt, rfl, hf1, hf2, Lib.hid (HKEEP.out (by omega)), HR3.out, HB2.out⟩, by simp [intOf]; omega⟩
      · obtain ⟨i', hi1, hi2⟩ : ∃ i', i ≤ i' + 1 ∧ i' + 1 ≤ i := ⟨i - 1, by omega, by omega⟩
        have z1 : (0 : Int) < (i : Int) := by omega
        have z3 : IntKind.i64.wrap ((i : Int) - 1) = (i' : Int) := IntWalk.i64_in _ (by omega) |>.trans (by omega)
        have z4 : (i' : Int) < (ms.length : Int) := by omega
        have hql' := HIO.out.lt i' (by omega)
        have d0 := (HB.out.cell (p := ⟨bo, oo + i', none⟩) hbo).trans (HOC.out i' (by omega))
        have d1 := (HB.out.cell (p := ⟨bm, om + ordAt l i' * 2, none⟩) hbm).trans (HMC.out _ hql')
        have hle := HIO.out.asc i' i (by omega) hlt
        have z5 : decide ((plc ms (ordAt l i) : Int) < (plc ms (ordAt l i') : Int)) = false := decide_eq_false (by omega)
        have z6 : decide (plc ms (ordAt l i) < plc ms (ordAt l i')) = false := decide_eq_false (by omega)
        have z7 : (0 : Int) ≤ (ordAt l i' : Int) := by omega
        have z8 : (ordAt l i' : Int) < (ms.length : Int) := by omega
        generalize plc ms (ordAt l i') = p' at *
        generalize ordAt l i' = q' at *
        generalize plc ms (ordAt l i) = p at *
        generalize ordAt l i = q at *
        have y1 : (0 : Int) ≤ (q : Int) := by omega
        have y2 : (q : Int) < (ms.length : Int) := by omega
        have y3 : decide ((q : Int) < 0) = false := decide_eq_false (by omega)
        have y4 : decide ((ms.length : Int) ≤ (q : Int)) = false := decide_eq_false (by omega)
        have y5 : decide (ms.length ≤ q) = false := decide_eq_false (by omega)
        go_wp2_with fail
        go_quiet (fail)
        have HROW1 : Hid ((wr.drewN nq).rowIs w4.heap.size 4 ms.length (fun q => .bool (toldO (ordAt l) i q))) := HROW
        have HB1 := Lib.hid (below_drewN HB.out nq)
        have e0 : (wr.drewN nq).cell? ⟨bo, oo + i, none⟩ = some (.int .i64 (q : Int)) := c0
        have e1 : (wr.drewN nq).cell? ⟨bm, om + q * 2, none⟩ = some (.int .i64 (p : Int)) := c1
        clear c0 c1 hcs HROW HB
        generalize wr.drewN nq = W1 at *
        have hcs := HROW1.out.cell (i := q) hql
        have hfs := HROW1.out.frozen q
        have HROW2 := Lib.hid (HROW1.out.set q (.bool true))
        have HB2 := Lib.hid (HB1.out.setCell (p := ⟨w4.heap.size, q, none⟩) (Nat.le_refl _) (.bool true))
        have s0 : (W1.setCell ⟨w4.heap.size, q, none⟩ (.bool true)).cell? ⟨bo, oo + i, none⟩ = some (.int .i64 (q : Int)) := (World.cell?_setCell_other _ _ _ _ (fun e => by injection e with e; omega)).trans e0
        have s1 : (W1.setCell ⟨w4.heap.size, q, none⟩ (.bool true)).cell? ⟨bm, om + q * 2, none⟩ = some (.int .i64 (p : Int)) := (World.cell?_setCell_other _ _ _ _ (fun e => by injection e with e; omega)).trans e1
        have HR3 : Hid ((W1.setCell ⟨w4.heap.size, q, none⟩ (.bool true)).rowIs w4.heap.size 4 ms.length (fun t => .bool (toldO (ordAt l) (i + 1) t))) := Lib.hid (HROW2.out.congr (fun t _ => by
          rw [HTS.out]
          by_cases e : t = q
          · subst e; simp
          · rw [if_neg e]
            have : (q == t) = false := by rw [beq_eq_false_iff_ne]; exact fun h => e h.symm
            rw [this, Bool.or_false]))
        clear HROW1 HROW2 HB1 HTS
        rcases Decidable.em (f < 0) with hfn | hfn
        · by_cases hkp : p < k
          · have x1 : decide ((k : Int) ≤ (p : Int)) = false := decide_eq_false (by omega)
            have x2 : decide (k ≤ p) = false := decide_eq_false (by omega)
            go_wp2_with fail
            exact ⟨⟨i + 1, f, by go_num, hlt, rfl, hf1, hf2, Lib.hid (HLOW.out hfn hkp), HR3.out, HB2.out⟩, by simp [intOf]; omega⟩
          · have x1 : (k : Int) ≤ (p : Int) := by omega
            have hkp' : k ≤ p := by omega
            go_wp2_with fail
            exact ⟨⟨i + 1, (p : Int), by go_num, hlt, rfl, by omega, by omega, Lib.hid (HNEW.out hfn hkp'), HR3.out, HB2.out⟩, by simp [intOf]; omega⟩
        · have x0 : decide (f < 0) = false := decide_eq_false hfn
          go_wp2_with fail
          exact ⟨⟨i + 1, f, by go_num, hlt, rfl, hf1, hf2, Lib.hid (HKEEP.out (by omega)), HR3.out, HB2.out⟩, by simp [intOf]; omega⟩
    · have k1 : decide ((i : Int) < (ms.length : Int)) = false := decide_eq_false (by omega)
      obtain rfl : i = ms.length := by omega
      have HNE := Lib.hid (near_any _ ms k wr (HCR.out.later HB.out) (by omega) (by omega) HBD.out)
      have HBW := Lib.hid (bstep HB4.out HB.out)
      rcases Decidable.em (f < 0) with hfn | hfn
      · have HNO := Lib.hid (first_none HIO.out HF.out hfn)
        clear HF HROW HB HB4
        go_wp2_with fail
        refine HNE.out.mono ?_
        rintro e w6 ⟨hb6, ⟨rfl, _⟩ | ⟨b, hbl, rfl, hkb, _⟩⟩
        · have HB6 := Lib.hid (bstep HBW.out hb6)
          clear hb6 HNE HBW
          go_wp2_with fail
          go_ret
          exact ⟨rfl, HB6.out⟩
        · exfalso
          have := HNO.out b hbl
          rw [plc_at ms b hbl] at this
          omega
      · have HSO := Lib.hid (first_some HIO.out HF.out hfn)
        have x0 : decide (f < 0) = false := decide_eq_false hfn
        have HB' := Lib.hid HB.out
        clear HF HROW HB HB4
        go_wp2_with fail
        refine HNE.out.mono ?_
        rintro e w6 ⟨hb6, ⟨_, hlow⟩ | ⟨b, hbl, rfl, hkb, hmin⟩⟩
        · exfalso
          obtain ⟨q, hq, hkq⟩ := HSO.out.1
          have := hlow q hq
          rw [plc_at ms q hq] at hkq
          omega
        · have hfe := HSO.out.2 b hbl (by rw [plc_at ms b hbl]; exact hkb) (fun q hq hkq => by rw [plc_at ms b hbl, plc_at ms q hq]; rw [plc_at ms q hq] at hkq; exact hmin q hq hkq)
          have c9 := (hb6.cell (p := ⟨bm, om + b * 2, none⟩) (Nat.lt_of_lt_of_le hbm HB'.out.size)).trans ((HB'.out.cell (p := ⟨bm, om + b * 2, none⟩) hbm).trans (HMC.out b hbl))
          have HB6 := Lib.hid (bstep HBW.out hb6)
          subst hfe
          have y1 : (0 : Int) ≤ (b : Int) := by omega
          have y2 : (b : Int) < (ms.length : Int) := by omega
          have y3 : ((plc ms b : Int) == (plc ms b : Int)) = true := by simp
          clear hb6 HNE HBW hkb hmin HSO HB'
          generalize plc ms b = pb at *
          go_wp2_with fail
          go_ret
          exact ⟨rfl, HB6.out⟩
end Go.Proofs.Ytpjpckhmjonehaa
