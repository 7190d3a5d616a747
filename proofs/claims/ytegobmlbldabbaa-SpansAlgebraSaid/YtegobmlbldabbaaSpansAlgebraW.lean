/-
  The walk of SpansAlgebra: at every input it returns true, and nothing that was there is changed.
-/
import Derived.Test.YtegobmlbldabbaaSpanD
import Derived.Test.YtegobmlbldabbaaSpanS
import Derived.Test.YtegobmlbldabbaaOrdC
import Derived.Test.YtegobmlbldabbaaReg
import Derived.BigQuiet
import Derived.Deep.QuietTactic
namespace Go.Proofs.Ytegobmlbldabbaa
open Go.RowKit
set_option linter.unusedVariables false
set_option linter.unusedSimpArgs false

theorem picked_one (a n : Int) (ha : -9223372036854775808 ≤ a ∧ a ≤ 9223372036854775807) (hn : 0 < n) (hn2 : n ≤ 4611686018427387904) : ∃ q : Nat, 1 ≤ q ∧ (q : Int) ≤ n ∧ ∀ W, Calls Try.prog 18 #[.int .i64 a, .int .i64 n] W fun e w' => e = .returned (.int .i64 ((q : Int) - 1)) ∧ W = w' := by
  obtain ⟨q, h1, h2⟩ := picked_nat a n ha hn hn2
  refine ⟨q + 1, by omega, by omega, fun W => ?_⟩
  rw [show (((q + 1 : Nat) : Int) - 1) = (q : Int) by omega]
  exact h2 W
theorem with_twice {l o o2 : List Sp} {s : Sp} (h : IsWith l s o) (h2 : IsWith o s o2) : o2 = o := by
  refine nrm_eq o2 o 0 0 h2.1 h.1 fun i => ?_
  rw [h2.2.1, h.2.1, Bool.or_assoc, Bool.or_self]
theorem cut_with {l o p q : List Sp} {s : Sp} (h : IsWith l s o) (h1 : IsCut o s p) (h2 : IsCut l s q) : p = q := by
  refine nrm_eq p q 0 0 h1.1 h2.1 fun i => ?_
  rw [h1.2.1, h2.2.1, h.2.1]
  cases inS l i <;> cases (decide (s.lo ≤ i) && decide (i < s.hi)) <;> rfl
set_option maxRecDepth 100000 in
set_option maxHeartbeats 8000000 in
theorem spansAlgebra_walk (w : World) (v0 : Value) (xs : List Int) (h0 : Row .i64 w v0 xs) (size : Int) (hsz : -9223372036854775808 ≤ size ∧ size ≤ 9223372036854775807) (a : Int) (hai : -9223372036854775808 ≤ a ∧ a ≤ 9223372036854775807) (b : Int) (hbi : -9223372036854775808 ≤ b ∧ b ≤ 9223372036854775807) :
    Calls Try.prog 13 #[v0, .int .i64 size, .int .i64 a, .int .i64 b] w fun e w' => e = .returned (.bool true) ∧ Below w.heap.size w w' := by
  obtain ⟨n, hn1, hn2, KN⟩ := picked_one size 200 hsz (by omega) (by omega)
  obtain ⟨lo, hlo, KA⟩ := picked_nat a (n : Int) hai (by omega) (by omega)
  obtain ⟨d, hd, KB⟩ := picked_nat b ((n : Int) - (lo : Int) + 1) hbi (by omega) (by omega)
  have KN := Lib.hid KN
  have KA := Lib.hid KA
  have KB := Lib.hid KB
  have HS := Lib.hid (setOf_any v0 xs 20 n w h0 (by omega) (by omega))
  obtain ⟨A0, c0, rfl, _⟩ := h0
  have e1 : 1 + ((n : Int) - 1) = (n : Int) := by omega
  go_enter Try.func13, Try.ntmps13
  go_wp2_with fail
  refine (KN.out _).mono ?_
  rintro e w' ⟨rfl, rfl⟩
  go_wp2_with fail
  refine HS.out.mono ?_
  rintro e w1 ⟨v1, l, rfl, ho1, hN, hhi, hl, hb1⟩
  have HST : Hid (Set_ n l) := Lib.hid ⟨hN, hhi⟩
  have HB1 := Lib.hid hb1
  obtain ⟨A1, c1, rfl, hc1, hc2⟩ := own_slice ho1
  obtain ⟨hi, hhi2⟩ : ∃ hi, lo + d = hi := ⟨_, rfl⟩
  have hhn : hi ≤ n := by omega
  have hlh : lo ≤ hi := by omega
  have hadd : (lo : Int) + (d : Int) = (hi : Int) := by omega
  have LIT := Lib.hid (ho1.alloc (.cells #[.int .i64 (lo : Int), .int .i64 (hi : Int)] 56))
  have BX := Blk.new w1 56 #[.int .i64 (lo : Int), .int .i64 (hi : Int)]
  have HBA := Lib.hid (hb1.alloc hb1.size (.cells #[.int .i64 (lo : Int), .int .i64 (hi : Int)] 56))
  clear ho1 hN hhi hb1 HS KN hhi2
  go_wp2_with fail
  refine (KA.out _).mono ?_
  rintro e w' ⟨rfl, rfl⟩
  go_wp2_with fail
  refine (KB.out _).mono ?_
  rintro e w' ⟨rfl, rfl⟩
  go_wp2_with fail
  have hgx : w1.heap.size < (w1.alloc (.cells #[.int .i64 (lo : Int), .int .i64 (hi : Int)] 56)).heap.size := by simp
  generalize w1.alloc (.cells #[.int .i64 (lo : Int), .int .i64 (hi : Int)] 56) = W at *
  generalize w1.heap.size = gx at *
  clear KA KB hadd HB1
  refine wp_region_ph [([0, 1, 3], [2]), ([], [4]), ([5, 6, 7, 8, 9], [])] (fun w' => Below W.heap.size W w') (by kernel_rfl) (by kernel_rfl) (fun _ _ h1 h2 => bstep h1 h2) (by repeat' (first | exact Below.refl _ _ | apply below_drewN)) ?_
  intro ι F hne hF W0 hW0 hI0
  have c0 : ∀ i, (F i).cell? ⟨gx, 0, none⟩ = some (.int .i64 (lo : Int)) := fun i => (BX.below (hF i) hgx).cell 0
  have c1 : ∀ i, (F i).cell? ⟨gx, 1, none⟩ = some (.int .i64 (hi : Int)) := fun i => (BX.below (hF i) hgx).cell 1
  (refine wpPh_cons ?_; simp only [pickOps, List.getElem?_cons_succ, List.getElem?_cons_zero])
  repeat (refine wpB_step (fun K hK => ?_); go_simp; first | (refine hK _ ?_; clear hK K) | (apply Exists.intro; refine ⟨fun _ => ?_, hK _ ?_⟩; (fail); clear hK K))
  refine wpB_nil ?_
  intro w3 hw3 hI3
  have HI3 := Lib.hid hI3
  clear c0 c1 hw3 hI3 hF
  have HRL := Lib.hid (Reads.of_own (own_below LIT.out HI3.out))
  refine wpRB_copy rfl (.tmp 48) _ rfl 56 _ 2 16 Try.underlying51 span_info rfl (by decide) A1 l.length _ (cellsOf spc l) rfl HRL.out (cellsOf_oneCell spc_one l) (by omega) (by omega) ?_
  intro v4 w4 ho4 hb4
  have HI4 := Lib.hid (bstep HI3.out hb4)
  refine ⟨HI4.out, ?_⟩
  intro w5 hw5 hI5
  have HO5 := Lib.hid (own_below ho4 hw5)
  have HI5 := Lib.hid hI5
  clear ho4 hb4 hw5 hI5
  refine wpRB_nil ?_
  (refine wpPh_cons ?_; simp only [pickOps, List.getElem?_cons_succ, List.getElem?_cons_zero])
  repeat (refine wpB_step (fun K hK => ?_); go_simp; first | (refine hK _ ?_; clear hK K) | (apply Exists.intro; refine ⟨fun _ => ?_, hK _ ?_⟩; (fail); clear hK K))
  refine wpB_nil ?_
  intro w6 hw6 hI6
  have HO6 := Lib.hid (own_below HO5.out hw6)
  have HI6 := Lib.hid hI6
  clear hw6 hI6
  refine wpRB_step (fun K hK => ?_)
  go_simp
  have hsp : (⟨lo, hi⟩ : Sp).lo ≤ (⟨lo, hi⟩ : Sp).hi ∧ (⟨lo, hi⟩ : Sp).hi ≤ n := ⟨hlh, hhn⟩
  refine (add_any n v4 l ⟨lo, hi⟩ w6 w3.heap.size HO6.out (by omega) (by omega) HST.out hsp).mono ?_
  rintro e w7 ⟨v7, o, rfl, ho7, hiw, hb7⟩
  have HI7 := Lib.hid (bstep HI6.out hb7)
  refine ⟨_, rfl, hK _ _ ⟨HI7.out, ?_⟩⟩
  clear hK K
  intro w8 hw8 hI8
  have HO8 := Lib.hid (own_below ho7 hw8)
  have HI8 := Lib.hid hI8
  have HIW := Lib.hid hiw
  have HSW : Hid (Set_ n o) := Lib.hid (hiw.set_ HST.out hhn)
  have hol := hiw.2.2
  obtain ⟨A7, c7, rfl, hA71, hA72⟩ := own_slice ho7
  clear hw8 hI8 ho7 hb7 hiw
  refine wpRB_nil ?_
  (refine wpPh_cons ?_; simp only [pickOps, List.getElem?_cons_succ, List.getElem?_cons_zero])
  repeat (refine wpB_step (fun K hK => ?_); go_simp; first | (refine hK _ ?_; clear hK K) | (apply Exists.intro; refine ⟨fun _ => ?_, hK _ ?_⟩; (fail); clear hK K))
  refine wpB_nil ?_
  intro w9 hw9 hI9
  have HO9 := Lib.hid (own_below HO8.out hw9)
  have HI9 := Lib.hid hI9
  clear hw9 hI9
  refine wpRB_nil ?_
  refine wpPh_nil ?_
  have HL9 := Lib.hid (own_below LIT.out HI9.out)
  have BX9 := BX.below HI9.out hgx
  have b0 : w9.cell? ⟨gx, 0, none⟩ = some (.int .i64 (lo : Int)) := BX9.cell 0
  have b1 : w9.cell? ⟨gx, 1, none⟩ = some (.int .i64 (hi : Int)) := BX9.cell 1
  have HB9 := Lib.hid (bstep HBA.out HI9.out)
  have hgx9 : gx < w9.heap.size := BX9.lt
  clear hne F hI0 hW0 HO5 HO6 HO8 HI3 HI4 HI5 HI6 HI7 HI8 LIT BX HRL
  have HT := Lib.hid (add_any n (.slice A7 o.length c7) o ⟨lo, hi⟩ w9 w6.heap.size HO9.out (by omega) (by omega) HSW.out hsp)
  unfold spv at HT
  go_wp2_with fail
  refine HT.out.mono ?_
  rintro e w10 ⟨v10, o2, rfl, ho10, hi2, hb10⟩
  obtain rfl : o2 = o := with_twice HIW.out hi2
  have HB10 := Lib.hid (bstep HB9.out hb10)
  have HO10 := Lib.hid (own_below HO9.out hb10)
  have HL10 := Lib.hid (own_below HL9.out hb10)
  have BX10 := BX9.below hb10 hgx9
  obtain ⟨A10, c10, rfl, hA101, hA102⟩ := own_slice ho10
  have HC := Lib.hid (cut_any n (.slice A7 o2.length c7) o2 ⟨lo, hi⟩ w10 w6.heap.size HO10.out (by omega) (by omega) HSW.out hsp)
  unfold spv at HC
  have b0' : w10.cell? ⟨gx, 0, none⟩ = some (.int .i64 (lo : Int)) := BX10.cell 0
  have b1' : w10.cell? ⟨gx, 1, none⟩ = some (.int .i64 (hi : Int)) := BX10.cell 1
  clear ho10 hi2 hb10 HT HO9 HL9 HB9 BX9 b0 b1
  go_wp2_with fail
  refine HC.out.mono ?_
  rintro e w11 ⟨v11, p, rfl, ho11, hp, hb11⟩
  have HB11 := Lib.hid (bstep HB10.out hb11)
  have HO11 := Lib.hid (own_below HO10.out hb11)
  have HL11 := Lib.hid (own_below HL10.out hb11)
  have HP11 := Lib.hid ho11
  have BX11 := BX10.below hb11 BX10.lt
  have b0 : w11.cell? ⟨gx, 0, none⟩ = some (.int .i64 (lo : Int)) := BX11.cell 0
  have b1 : w11.cell? ⟨gx, 1, none⟩ = some (.int .i64 (hi : Int)) := BX11.cell 1
  obtain ⟨A11, c11, rfl, hA111, hA112⟩ := own_slice ho11
  have HD := Lib.hid (cut_any n (.slice A1 l.length c1) l ⟨lo, hi⟩ w11 _ HL11.out (by omega) (by omega) HST.out hsp)
  unfold spv at HD
  have HPC := Lib.hid hp
  clear ho11 hb11 HC HO10 HL10 HB10 BX10 b0' b1' hp
  go_wp2_with fail
  refine HD.out.mono ?_
  rintro e w12 ⟨v12, q, rfl, ho12, hq, hb12⟩
  obtain rfl : p = q := cut_with HIW.out HPC.out hq
  have HB12 := Lib.hid (bstep HB11.out hb12)
  have HO12 := Lib.hid (own_below HO11.out hb12)
  have HL12 := Lib.hid (own_below HL11.out hb12)
  have HP12 := Lib.hid (own_below HP11.out hb12)
  have HQ12 := Lib.hid ho12
  have BX12 := BX11.below hb12 BX11.lt
  have hpl := hq.2.2
  have HSP : Hid (Set_ n p) := Lib.hid (hq.set_ HST.out)
  obtain ⟨A12, c12, rfl, hA121, hA122⟩ := own_slice ho12
  have HW1 := Lib.hid (within_any n (.slice A1 l.length c1) l w12 (CRow.of_own spc_len HL12.out) (by omega) (by omega) HST.out.nrm HST.out.hi)
  clear ho12 hb12 HD HO11 HL11 HP11 HB11 BX11 b0 b1 hq
  go_wp2_with fail
  refine HW1.out.mono ?_
  rintro e w13 ⟨g1, rfl, hg1, hr1, hb13⟩
  have HB13 := Lib.hid (bstep HB12.out hb13)
  have HO13 := Lib.hid (own_below HO12.out hb13)
  have HP13 := Lib.hid (own_below HP12.out hb13)
  have HQ13 := Lib.hid (own_below HQ12.out hb13)
  have HR1 := Lib.hid hr1
  have BX13 := BX12.below hb13 BX12.lt
  have HW2 := Lib.hid (within_any n (.slice A7 o2.length c7) o2 w13 (CRow.of_own spc_len HO13.out) (by omega) (by omega) HSW.out.nrm HSW.out.hi)
  clear hr1 hb13 HW1 HO12 HL12 HP12 HQ12 HB12 BX12
  go_wp2_with fail
  refine HW2.out.mono ?_
  rintro e w14 ⟨g2, rfl, hg2, hr2, hb14⟩
  have HB14 := Lib.hid (bstep HB13.out hb14)
  have HP14 := Lib.hid (own_below HP13.out hb14)
  have HQ14 := Lib.hid (own_below HQ13.out hb14)
  have HR14 := Lib.hid (rowIs_later HR1.out hb14)
  have HR2 := Lib.hid hr2
  have BX14 := BX13.below hb14 BX13.lt
  have HW3 := Lib.hid (within_any n (.slice A11 p.length c11) p w14 (CRow.of_own spc_len HP14.out) (by omega) (by omega) HSP.out.nrm HSP.out.hi)
  clear hr2 hb14 HW2 HO13 HP13 HQ13 HB13 BX13 HR1
  go_wp2_with fail
  refine HW3.out.mono ?_
  rintro e w15 ⟨g3, rfl, hg3, hr3, hb15⟩
  have HB15 := Lib.hid (bstep HB14.out hb15)
  have HP15 := Lib.hid (own_below HP14.out hb15)
  have HQ15 := Lib.hid (own_below HQ14.out hb15)
  have HRa := Lib.hid (rowIs_later HR14.out hb15)
  have HRb := Lib.hid (rowIs_later HR2.out hb15)
  have HRc := Lib.hid hr3
  have BX15 := BX14.below hb15 BX14.lt
  have heq : ∀ (g : Nat) W, (binOp .eql 53 (.slice (some ⟨g, 0, none⟩) (n + 1) (n + 1)) (.slice none 0 0)).run Try.prog W = .ok (.bool false) W := fun g W => Lib.run_eql_slice_nil W _ _ (some ⟨g, 0, none⟩) (n + 1) (n + 1) 0 0 Try.underlying53
  have h1 := heq g1
  have h2 := heq g2
  have h3 := heq g3
  clear hr3 hb15 HW3 HP14 HQ14 HB14 BX14 HR14 HR2 heq hA71 hA72 hA101 hA102 hA111 hA112 hA121 hA122 HSW HSP HST hg1 hg2 hg3 hgx9
  go_wp2_with fail
  clear h1 h2 h3
  go_loopw [24, 25] (fun vi _ wq => ∃ i q : Nat, vi = .int .i64 i ∧ i ≤ n ∧ wq = w15.drewN q) (fun vi _ _ => n - (intOf vi).toNat)
  case atStart => exact ⟨0, 0, rfl, Nat.zero_le _, rfl⟩
  case round =>
    obtain ⟨i, q, rfl, hin, rfl⟩ := hrel
    have b0 : w15.cell? ⟨gx, 0, none⟩ = some (.int .i64 (lo : Int)) := BX15.cell 0
    have b1 : w15.cell? ⟨gx, 1, none⟩ = some (.int .i64 (hi : Int)) := BX15.cell 1
    by_cases hlt : i < n
    · have k1 := HRa.out.cell (i := i) (by omega)
      have k2 := HRb.out.cell (i := i) (by omega)
      have k3 := HRc.out.cell (i := i) (by omega)
      rw [HIW.out.2.1] at k2
      rw [HPC.out.2.1, HIW.out.2.1] at k3
      have hi0 : (0 : Int) ≤ (i : Int) := by omega
      have hi3 : (i : Int) < (n : Int) + 1 := by omega
      cases hpb : inS l i
      all_goals rw [hpb] at k1 k2 k3
      all_goals clear hpb
      · by_cases ha : lo ≤ i
        · have ha' : (lo : Int) ≤ (i : Int) := by omega
          by_cases hb : i < hi
          · have hb' : (i : Int) < (hi : Int) := by omega
            simp only [decide_eq_true ha, decide_eq_true hb, Bool.and_self, Bool.or_true, Bool.not_true, Bool.and_false, Bool.or_self, Bool.false_or, Bool.and_true, Bool.true_and] at k2 k3
            go_wp2_with fail
            go_quiet (fail)
            go_wp2_with fail
            go_roundw
            case rel => exact ⟨i + 1, _, by go_num, by omega, rfl⟩
            case measure => simp [intOf]; omega
          · have hb' : ¬ (i : Int) < (hi : Int) := by omega
            simp only [decide_eq_true ha, decide_eq_false hb, Bool.and_self, Bool.or_true, Bool.not_true, Bool.not_false, Bool.and_false, Bool.or_self, Bool.false_or, Bool.and_true, Bool.true_and] at k2 k3
            go_wp2_with fail
            go_quiet (fail)
            go_wp2_with fail
            go_roundw
            case rel => exact ⟨i + 1, _, by go_num, by omega, rfl⟩
            case measure => simp [intOf]; omega
        · have ha' : ¬ (lo : Int) ≤ (i : Int) := by omega
          simp only [decide_eq_false ha, Bool.false_and, Bool.and_self, Bool.or_true, Bool.not_true, Bool.not_false, Bool.and_false, Bool.or_self, Bool.false_or, Bool.and_true, Bool.true_and] at k2 k3
          go_wp2_with fail
          go_quiet (fail)
          go_wp2_with fail
          go_roundw
          case rel => exact ⟨i + 1, _, by go_num, by omega, rfl⟩
          case measure => simp [intOf]; omega
      · by_cases ha : lo ≤ i
        · have ha' : (lo : Int) ≤ (i : Int) := by omega
          by_cases hb : i < hi
          · have hb' : (i : Int) < (hi : Int) := by omega
            simp only [decide_eq_true ha, decide_eq_true hb, Bool.and_self, Bool.or_true, Bool.not_true, Bool.and_false, Bool.or_self, Bool.true_or, Bool.and_true, Bool.true_and] at k2 k3
            go_wp2_with fail
            go_quiet (fail)
            go_wp2_with fail
            go_roundw
            case rel => exact ⟨i + 1, _, by go_num, by omega, rfl⟩
            case measure => simp [intOf]; omega
          · have hb' : ¬ (i : Int) < (hi : Int) := by omega
            simp only [decide_eq_true ha, decide_eq_false hb, Bool.and_self, Bool.or_true, Bool.not_true, Bool.not_false, Bool.and_false, Bool.or_self, Bool.true_or, Bool.and_true, Bool.true_and] at k2 k3
            go_wp2_with fail
            go_quiet (fail)
            go_wp2_with fail
            go_roundw
            case rel => exact ⟨i + 1, _, by go_num, by omega, rfl⟩
            case measure => simp [intOf]; omega
        · have ha' : ¬ (lo : Int) ≤ (i : Int) := by omega
          simp only [decide_eq_false ha, Bool.false_and, Bool.and_self, Bool.or_true, Bool.not_true, Bool.not_false, Bool.and_false, Bool.or_self, Bool.true_or, Bool.and_true, Bool.true_and] at k2 k3
          go_wp2_with fail
          go_quiet (fail)
          go_wp2_with fail
          go_roundw
          case rel => exact ⟨i + 1, _, by go_num, by omega, rfl⟩
          case measure => simp [intOf]; omega
    · obtain rfl : i = n := by omega
      clear b0 b1
      go_wp2_with fail
      go_loopw [26] (fun vi wq => ∃ j q : Nat, vi = .int .i64 j ∧ j ≤ p.length ∧ wq = w15.drewN q) (fun vi _ => p.length - (intOf vi).toNat)
      case atStart => exact ⟨0, q, rfl, Nat.zero_le _, rfl⟩
      case round =>
        obtain ⟨j, q, rfl, hj, rfl⟩ := hrel
        by_cases hjl : j < p.length
        · obtain ⟨ga, ca, hva, hga, hgal⟩ := HP15.out.form (by omega)
          obtain ⟨gb, cb, hvb, hgb, hgbl⟩ := HQ15.out.form (by omega)
          injection hva with e1 _ e3
          subst e1
          injection hvb with e4 _ e6
          subst e4
          have x0 := HP15.out.cells (g := ga) rfl (j * 2 + 0) _ ((cellsOf_at spc_len p j hjl 0 (by decide)).trans rfl)
          have x1 := HP15.out.cells (g := ga) rfl (j * 2 + 1) _ ((cellsOf_at spc_len p j hjl 1 (by decide)).trans rfl)
          have z0 := HQ15.out.cells (g := gb) rfl (j * 2 + 0) _ ((cellsOf_at spc_len p j hjl 0 (by decide)).trans rfl)
          have z1 := HQ15.out.cells (g := gb) rfl (j * 2 + 1) _ ((cellsOf_at spc_len p j hjl 1 (by decide)).trans rfl)
          rw [add_head] at x0 x1 z0 z1
          replace x0 : w15.cell? ⟨ga, j * 2, none⟩ = some (.int .i64 (p[j].lo : Int)) := x0
          replace x1 : w15.cell? ⟨ga, j * 2 + 1, none⟩ = some (.int .i64 (p[j].hi : Int)) := x1
          replace z0 : w15.cell? ⟨gb, j * 2, none⟩ = some (.int .i64 (p[j].lo : Int)) := z0
          replace z1 : w15.cell? ⟨gb, j * 2 + 1, none⟩ = some (.int .i64 (p[j].hi : Int)) := z1
          have hj0 : (0 : Int) ≤ (j : Int) := by omega
          have hj1 : (j : Int) < (p.length : Int) := by omega
          generalize p[j].lo = u0 at *
          generalize p[j].hi = u1 at *
          clear e3 e6
          go_wp2_with fail
          go_quiet (fail)
          go_wp2_with fail
          go_roundw
          case rel => exact ⟨j + 1, _, by go_num, by omega, rfl⟩
          case measure => simp [intOf]; omega
        · obtain rfl : j = p.length := by omega
          go_wp2_with fail
          go_ret
          exact ⟨rfl, below_drewN HB15.out _⟩
end Go.Proofs.Ytegobmlbldabbaa
