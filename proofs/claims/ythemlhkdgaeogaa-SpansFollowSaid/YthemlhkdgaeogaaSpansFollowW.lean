/-
  The walk of SpansFollow: at every input it returns true, and nothing that was there is changed.
-/
import Derived.Test.YthemlhkdgaeogaaFollowP
import Derived.Test.YthemlhkdgaeogaaMvP
import Derived.Test.YthemlhkdgaeogaaSpanS
import Derived.Test.YthemlhkdgaeogaaOrdC
import Derived.Test.YthemlhkdgaeogaaReg
import Derived.BigQuiet
import Derived.Deep.QuietTactic
namespace Go.Proofs.Ythemlhkdgaeogaa
open Go.RowKit
set_option linter.unusedVariables false
set_option linter.unusedSimpArgs false

set_option maxRecDepth 100000 in
set_option maxHeartbeats 8000000 in
theorem spansFollow_walk (w : World) (v0 : Value) (xs : List Int) (h0 : Row .i64 w v0 xs) (v1 : Value) (ys : List Int) (h1 : Row .i64 w v1 ys) (z : Chg × Value × Value × Value) (h2 : Chg1 w z.2.1 z.2.2.1 z.2.2.2 z.1) :
    Calls Try.prog 3 #[v0, v1, .agg #[z.2.1, z.2.2.1, z.2.2.2]] w fun e w' => e = .returned (.bool true) ∧ Below w.heap.size w w' := by
  obtain ⟨x, u0, u1, u2⟩ := z
  simp only at h2 ⊢
  have hal := (Below.refl w.heap.size w).alloc (Nat.le_refl w.heap.size) (.cells #[u0, u1, u2] 24)
  have HT := Lib.hid (textOf_any v0 xs 100 _ (h0.later hal) (by omega) (by omega))
  have H1 := Lib.hid (h1.later hal)
  have H2 := Lib.hid (h2.later hal)
  have BC := Blk.new w 24 #[u0, u1, u2]
  have hgc : w.heap.size < (w.alloc (.cells #[u0, u1, u2] 24)).heap.size := by simp
  have HAL := Lib.hid hal
  obtain ⟨A0, c0, rfl, _⟩ := h0
  obtain ⟨A1, c1, rfl, _⟩ := h1
  clear h2 hal
  go_enter Try.func3, Try.ntmps3
  go_wp2_with fail
  generalize (w.alloc (.cells #[u0, u1, u2] 24)) = W at *
  refine HT.out.mono ?_
  rintro e w1 ⟨s, rfl, es0, rfl⟩
  have hsn := text_len _ _ _ es0
  simp only [show Int.toNat 100 = 100 from rfl] at hsn
  clear es0 HT
  have HS := Lib.hid (setOf_any _ ys 15 s.size _ H1.out (by omega) (by omega))
  go_wp2_with fail
  refine HS.out.mono ?_
  rintro e w2 ⟨v2, l, rfl, ho2, hN, hhi, hl, hb2⟩
  have HST : Hid (Set_ s.size l) := Lib.hid ⟨hN, hhi⟩
  have BC2 := BC.below hb2 hgc
  have b0 : w2.cell? ⟨w.heap.size, 0, none⟩ = some u0 := BC2.cell 0
  have b1 : w2.cell? ⟨w.heap.size, 1, none⟩ = some u1 := BC2.cell 1
  have b2 : w2.cell? ⟨w.heap.size, 2, none⟩ = some u2 := BC2.cell 2
  have HE := Lib.hid (editOf_any x u0 u1 u2 s.size _ (H2.out.later hb2) (by omega))
  have HB2 := Lib.hid (bstep HAL.out hb2)
  obtain ⟨A2, c2, rfl, hc21, hc22⟩ := own_slice ho2
  have HO2 := Lib.hid ho2
  clear ho2 hb2 hN hhi HS H1 BC hgc HAL BC2
  go_wp2_with fail
  refine HE.out.mono ?_
  rintro e w3 ⟨d, rfl, hd1, hd2, hd3, hb3⟩
  obtain ⟨p, c, put⟩ := d
  simp only at hd1 hd2 hd3 ⊢
  have BX := Blk.new w3 29 #[.int .i64 (p : Int), .int .i64 (c : Int), .string put]
  have BX' := BX.below ((Below.refl _ _).alloc (Nat.le_refl _) (.cells #[.int .i64 (p : Int), .int .i64 (c : Int), .string put] 29)) (by simp)
  have hE : EdRow ((w3.alloc (.cells #[.int .i64 (p : Int), .int .i64 (c : Int), .string put] 29)).alloc (.cells #[.int .i64 (p : Int), .int .i64 (c : Int), .string put] 29)) (.slice (some ⟨(w3.alloc (.cells #[.int .i64 (p : Int), .int .i64 (c : Int), .string put] 29)).heap.size, 0, none⟩) 1 1) [⟨p, c, put⟩] := EdRow.lit _ 29 [⟨p, c, put⟩] (show 1 ≤ maxLen by decide)
  simp only [World.size_alloc] at hE
  have HA := Lib.hid (apply_any s _ [⟨p, c, put⟩] _ hE (by omega) (show 1 ≤ 60 by decide) (by intro e he; simp at he; subst he; show put.size ≤ 600; omega) (show okr s.size [⟨p, c, put⟩] from ⟨by show p + c ≤ s.size; omega, by show s.size + put.size - c ≤ 600; omega, trivial⟩))
  have h9 : w2.heap.size ≤ (w3.alloc (.cells #[.int .i64 (p : Int), .int .i64 (c : Int), .string put] 29)).heap.size := by have := hb3.size; simp; omega
  have HB3 := Lib.hid ((hb3.alloc hb3.size (.cells #[.int .i64 (p : Int), .int .i64 (c : Int), .string put] 29)).alloc h9 (.cells #[.int .i64 (p : Int), .int .i64 (c : Int), .string put] 29))
  have hg3 : w3.heap.size < ((w3.alloc (.cells #[.int .i64 (p : Int), .int .i64 (c : Int), .string put] 29)).alloc (.cells #[.int .i64 (p : Int), .int .i64 (c : Int), .string put] 29)).heap.size := by simp; omega
  have y0 : (w3.alloc (.cells #[.int .i64 (p : Int), .int .i64 (c : Int), .string put] 29)).cell? ⟨w3.heap.size, 0, none⟩ = some (.int .i64 (p : Int)) := BX.cell 0
  have y1 : (w3.alloc (.cells #[.int .i64 (p : Int), .int .i64 (c : Int), .string put] 29)).cell? ⟨w3.heap.size, 1, none⟩ = some (.int .i64 (c : Int)) := BX.cell 1
  have y2 : (w3.alloc (.cells #[.int .i64 (p : Int), .int .i64 (c : Int), .string put] 29)).cell? ⟨w3.heap.size, 2, none⟩ = some (.string put) := BX.cell 2
  clear b0 b1 b2 hE hb3 HE H2 BX h9
  go_wp2_with fail
  refine HA.out.mono ?_
  rintro e w4 ⟨rfl, hb4⟩
  have BX4 := BX'.below hb4 hg3
  have HB4 := Lib.hid (bstep HB3.out hb4)
  have HO4 := Lib.hid (own_below HO2.out HB4.out)
  have hgx := BX4.lt
  have ht : rn s [⟨p, c, put⟩] = mk s ⟨p, c, put⟩ := rfl
  have hts := mk_size s ⟨p, c, put⟩ hd1
  have HBY := Lib.hid (mk_byte_at s ⟨p, c, put⟩ hd1)
  rw [ht]
  simp only at hts HBY
  generalize mk s ⟨p, c, put⟩ = t at *
  generalize w3.heap.size = gx at *
  clear ht y0 y1 y2 hb4 HA HB3 BX' hg3
  go_wp2_with fail
  refine wp_region_ph [([0, 1, 3], [2]), ([], [4]), ([5, 6, 7, 8, 9], [])] (fun w' => Below w4.heap.size w4 w') (by kernel_rfl) (by kernel_rfl) (fun _ _ h1 h2 => bstep h1 h2) (by repeat' (first | exact Below.refl _ _ | apply below_drewN)) ?_
  intro ι F hne hF W0 hW0 hI0
  have c0 : ∀ i, (F i).cell? ⟨gx, 0, none⟩ = some (.int .i64 (p : Int)) := fun i => (BX4.below (hF i) hgx).cell 0
  have c1 : ∀ i, (F i).cell? ⟨gx, 1, none⟩ = some (.int .i64 (c : Int)) := fun i => (BX4.below (hF i) hgx).cell 1
  have c2 : ∀ i, (F i).cell? ⟨gx, 2, none⟩ = some (.string put) := fun i => (BX4.below (hF i) hgx).cell 2
  (refine wpPh_cons ?_; simp only [pickOps, List.getElem?_cons_succ, List.getElem?_cons_zero])
  repeat (refine wpB_step (fun K hK => ?_); go_simp; first | (refine hK _ ?_; clear hK K) | (apply Exists.intro; refine ⟨fun _ => ?_, hK _ ?_⟩; (fail); clear hK K))
  refine wpB_nil ?_
  intro w5 hw5 hI5
  have HI5 := Lib.hid hI5
  clear c0 c1 c2 hw5 hI5 hF
  have HRL := Lib.hid (Reads.of_own (own_below HO4.out HI5.out))
  refine wpRB_copy rfl (.tmp 41) _ rfl 73 _ 2 16 Try.underlying26 span_info rfl (by decide) A2 l.length _ (cellsOf spc l) rfl HRL.out (cellsOf_oneCell spc_one l) (by omega) (by omega) ?_
  intro v6 w6 ho6 hb6
  have HI6 := Lib.hid (bstep HI5.out hb6)
  refine ⟨HI6.out, ?_⟩
  intro w7 hw7 hI7
  have HO7 := Lib.hid (own_below ho6 hw7)
  have HI7 := Lib.hid hI7
  clear ho6 hb6 hw7 hI7
  refine wpRB_nil ?_
  (refine wpPh_cons ?_; simp only [pickOps, List.getElem?_cons_succ, List.getElem?_cons_zero])
  repeat (refine wpB_step (fun K hK => ?_); go_simp; first | (refine hK _ ?_; clear hK K) | (apply Exists.intro; refine ⟨fun _ => ?_, hK _ ?_⟩; (fail); clear hK K))
  refine wpB_nil ?_
  intro w8 hw8 hI8
  have HO8 := Lib.hid (own_below HO7.out hw8)
  have HI8 := Lib.hid hI8
  clear hw8 hI8
  refine wpRB_step (fun K hK => ?_)
  go_simp
  refine (shift_any s.size v6 l p c put w8 w5.heap.size HO8.out (by omega) (by omega) HST.out hd1 hd3).mono ?_
  rintro e w9 ⟨v9, o, rfl, ho9, his, hb9⟩
  have HI9 := Lib.hid (bstep HI8.out hb9)
  refine ⟨_, rfl, hK _ _ ⟨HI9.out, ?_⟩⟩
  clear hK K
  intro w10 hw10 hI10
  have HO10 := Lib.hid (own_below ho9 hw10)
  have HI10 := Lib.hid hI10
  have HIS := Lib.hid his
  have HSO : Hid (Set_ (s.size + put.size - c) o) := Lib.hid (his.set_ HST.out hd1)
  have hol := his.2.2
  obtain ⟨A9, c9, rfl, hA91, hA92⟩ := own_slice ho9
  clear hw10 hI10 ho9 hb9 his
  refine wpRB_nil ?_
  (refine wpPh_cons ?_; simp only [pickOps, List.getElem?_cons_succ, List.getElem?_cons_zero])
  repeat (refine wpB_step (fun K hK => ?_); go_simp; first | (refine hK _ ?_; clear hK K) | (apply Exists.intro; refine ⟨fun _ => ?_, hK _ ?_⟩; (fail); clear hK K))
  refine wpB_nil ?_
  intro w11 hw11 hI11
  have HO11 := Lib.hid (own_below HO10.out hw11)
  have HI11 := Lib.hid hI11
  clear hw11 hI11
  refine wpRB_nil ?_
  refine wpPh_nil ?_
  have HL11 := Lib.hid (own_below HO4.out HI11.out)
  have HB11 := Lib.hid (HB2.out.trans ((bstep HB4.out HI11.out).mono HB2.out.size))
  have BX11 := BX4.below HI11.out hgx
  rw [← hts] at HSO
  have hti : t.size ≤ 120 := by omega
  have HTS := Lib.hid hts
  clear hts
  clear hne F hI0 hW0 HO2 HO4 HO7 HO8 HO10 HI5 HI6 HI7 HI8 HI9 HI10 HI11 HB2 HB4 BX4 HRL hgx
  have HW1 := Lib.hid (within_any s.size (.slice A2 l.length c2) l w11 (CRow.of_own spc_len HL11.out) (by omega) (by omega) HST.out.nrm HST.out.hi)
  go_wp2_with fail
  refine HW1.out.mono ?_
  rintro e w12 ⟨g1, rfl, hg1, hr1, hb12⟩
  have HB12 := Lib.hid (bstep HB11.out hb12)
  have HO12 := Lib.hid (own_below HO11.out hb12)
  have HR1 := Lib.hid hr1
  have BX12 := BX11.below hb12 BX11.lt
  have HW2 := Lib.hid (within_any t.size (.slice A9 o.length c9) o w12 (CRow.of_own spc_len HO12.out) (by omega) (by omega) HSO.out.nrm HSO.out.hi)
  clear hr1 hb12 HW1 HO11 HB11 BX11
  go_wp2_with fail
  refine HW2.out.mono ?_
  rintro e w13 ⟨g2, rfl, hg2, hr2, hb13⟩
  have HB13 := Lib.hid (bstep HB12.out hb13)
  have HRa := Lib.hid (rowIs_later HR1.out hb13)
  have HRb := Lib.hid hr2
  have BX13 := BX12.below hb13 BX12.lt
  have hga := HRa.out.lt
  have heq : ∀ (g n : Nat) W, (binOp .eql 37 (.slice (some ⟨g, 0, none⟩) (n + 1) (n + 1)) (.slice none 0 0)).run Try.prog W = .ok (.bool false) W := fun g n W => Lib.run_eql_slice_nil W _ _ (some ⟨g, 0, none⟩) (n + 1) (n + 1) 0 0 Try.underlying37
  have h1 := heq g1 s.size
  have h2 := heq g2 t.size
  have HCN := Lib.hid (cnt_follow HIS.out hd1)
  rw [← HTS.out] at HCN
  clear hr2 hb13 HW2 HO12 HB12 BX12 HR1 heq hc21 hc22 hA91 hA92 hg1 hg2
  go_wp2_with fail
  clear h1 h2
  go_loopw [17, 18, 19, 20] (fun vo vi _ _ wq => ∃ i : Nat, vo = .int .i64 ((cnt (kept l p c) i : Nat) : Int) ∧ vi = .int .i64 i ∧ i ≤ s.size ∧ Below w13.heap.size w13 wq) (fun _ vi _ _ _ => s.size - (intOf vi).toNat)
  case atStart => exact ⟨0, rfl, rfl, Nat.zero_le _, Below.refl _ _⟩
  case round =>
    obtain ⟨i, rfl, rfl, hin, hb⟩ := hrel
    have BXr := BX13.below hb BX13.lt
    have b0 : wr.cell? ⟨gx, 0, none⟩ = some (.int .i64 (p : Int)) := BXr.cell 0
    have b1 : wr.cell? ⟨gx, 1, none⟩ = some (.int .i64 (c : Int)) := BXr.cell 1
    have b2 : wr.cell? ⟨gx, 2, none⟩ = some (.string put) := BXr.cell 2
    have HRar := Lib.hid (rowIs_later HRa.out hb)
    have HRbr := Lib.hid (rowIs_later HRb.out hb)
    have hco := cnt_le (kept l p c) i
    by_cases hlt : i < s.size
    · have k1 := HRar.out.cell (i := i) (by omega)
      have hi0 : (0 : Int) ≤ (i : Int) := by omega
      have hi3 : (i : Int) < (s.size : Int) + 1 := by omega
      cases hpb : inS l i
      all_goals rw [hpb] at k1
      · by_cases ha : p ≤ i
        · have ha' : (p : Int) ≤ (i : Int) := by omega
          by_cases hbb : i < p + c
          · have hb' : (i : Int) < (p : Int) + (c : Int) := by omega
            have hk : kept l p c i = false := by unfold kept; rw [hpb, decide_eq_true ha, decide_eq_true hbb]; rfl
            clear hpb
            go_wp2_with fail
            go_roundw
            case rel => exact ⟨i + 1, by rw [cnt_succ, hk]; rfl, by go_num, by omega, hb⟩
            case measure => simp [intOf]; omega
          · have hb' : ¬ (i : Int) < (p : Int) + (c : Int) := by omega
            have hk : kept l p c i = true := by unfold kept; rw [hpb, decide_eq_true ha, decide_eq_false hbb]; rfl
            clear hpb
            go_wp2_with fail
            refine (place_any p c put i true _ (by omega) (by omega) (by omega) (by omega)).mono ?_
            rintro e w14 ⟨rfl, hb14⟩
            have HBr := Lib.hid (bstep hb hb14)
            have HRc := Lib.hid (rowIs_later HRbr.out hb14)
            have hmv := mv_out' p c put.size i (by omega)
            have hq := kept_back HIS.out hk
            have hby := HBY.out i hlt (by omega)
            rw [hmv] at hby
            rw [hmv]
            have hkt : (if i < p then i else i + put.size - c) < t.size := by rw [HTS.out]; split <;> omega
            generalize (if i < p then i else i + put.size - c) = k at *
            have k2 := HRc.out.cell (i := k) (by omega)
            rw [hq] at k2
            have hbe := hby k rfl hkt
            have hqq : ((t[k].toNat : Int) != (s[i].toNat : Int)) = false := by rw [hbe]; simp
            have n0 : ¬ (k : Int) < 0 := by omega
            have n1 : ¬ t.size ≤ k := by omega
            have j0 : (0 : Int) ≤ (k : Int) := Int.natCast_nonneg _
            have j1 : (k : Int) < (t.size : Int) := by omega
            have j1' : (k : Int) < (t.size : Int) + 1 := by omega
            have j2 : (i : Int) < (s.size : Int) := by omega
            have HK := Lib.hid hk
            clear hby hmv hq hbe hb hb14 b0 b1 b2 hk k1 BXr
            go_wp2_with fail
            go_quiet (fail)
            go_wp2_with fail
            refine ⟨⟨i + 1, by rw [cnt_succ, HK.out]; go_num, by go_num, by omega, below_drewN HBr.out _⟩, ?_⟩
            simp [intOf]; omega
        · have ha' : ¬ (p : Int) ≤ (i : Int) := by omega
          have hk : kept l p c i = true := by unfold kept; rw [hpb, decide_eq_false ha]; rfl
          clear hpb
          go_wp2_with fail
          refine (place_any p c put i true _ (by omega) (by omega) (by omega) (by omega)).mono ?_
          rintro e w14 ⟨rfl, hb14⟩
          have HBr := Lib.hid (bstep hb hb14)
          have HRc := Lib.hid (rowIs_later HRbr.out hb14)
          have hmv := mv_out' p c put.size i (by omega)
          have hq := kept_back HIS.out hk
          have hby := HBY.out i hlt (by omega)
          rw [hmv] at hby
          rw [hmv]
          have hkt : (if i < p then i else i + put.size - c) < t.size := by rw [HTS.out]; split <;> omega
          generalize (if i < p then i else i + put.size - c) = k at *
          have k2 := HRc.out.cell (i := k) (by omega)
          rw [hq] at k2
          have hbe := hby k rfl hkt
          have hqq : ((t[k].toNat : Int) != (s[i].toNat : Int)) = false := by rw [hbe]; simp
          have n0 : ¬ (k : Int) < 0 := by omega
          have n1 : ¬ t.size ≤ k := by omega
          have j0 : (0 : Int) ≤ (k : Int) := Int.natCast_nonneg _
          have j1 : (k : Int) < (t.size : Int) := by omega
          have j1' : (k : Int) < (t.size : Int) + 1 := by omega
          have j2 : (i : Int) < (s.size : Int) := by omega
          have HK := Lib.hid hk
          clear hby hmv hq hbe hb hb14 b0 b1 b2 hk k1 BXr
          go_wp2_with fail
          go_quiet (fail)
          go_wp2_with fail
          refine ⟨⟨i + 1, by rw [cnt_succ, HK.out]; go_num, by go_num, by omega, below_drewN HBr.out _⟩, ?_⟩
          simp [intOf]; omega
      · have hk : kept l p c i = false := by unfold kept; rw [hpb]; rfl
        clear hpb
        go_wp2_with fail
        go_roundw
        case rel => exact ⟨i + 1, by rw [cnt_succ, hk]; rfl, by go_num, by omega, hb⟩
        case measure => simp [intOf]; omega
    · obtain rfl : i = s.size := by omega
      have HCT := Lib.hid HCN.out
      generalize cnt (kept l p c) s.size = T at *
      clear b0 b1 b2 BXr
      go_wp2_with fail
      go_loopw [17, 21] (fun vo vi wq => ∃ j r : Nat, vo = .int .i64 (r : Int) ∧ vi = .int .i64 j ∧ j ≤ t.size ∧ Hid (r + cnt (fun j => !inS o j) j = T) ∧ r ≤ T ∧ wq = wr) (fun _ vi _ => t.size - (intOf vi).toNat)
      case atStart => exact ⟨0, T, rfl, rfl, Nat.zero_le _, Lib.hid (by simp [cnt]), Nat.le_refl _, rfl⟩
      case round =>
        obtain ⟨j, r, rfl, rfl, hj, HJ, hrT, rfl⟩ := hrel
        by_cases hjt : j < t.size
        · have k2 := HRbr.out.cell (i := j) (by omega)
          have j0 : (0 : Int) ≤ (j : Int) := Int.natCast_nonneg _
          have j1 : (j : Int) < (t.size : Int) + 1 := by omega
          have hmo := cnt_mono (fun j => !inS o j) (show j + 1 ≤ t.size by omega)
          rw [HCT.out, cnt_succ] at hmo
          cases hq : inS o j
          all_goals simp only [hq] at k2 hmo
          · have hr1 : 1 ≤ r := by have := HJ.out; simp at hmo; omega
            have HQ := Lib.hid hq
            clear hmo hq
            go_wp2_with fail
            go_roundw
            case rel => exact ⟨j + 1, r - 1, by go_num, by go_num, by omega, Lib.hid (by rw [cnt_succ, HQ.out]; have := HJ.out; simp; omega), by omega, trivial⟩
            case measure => simp [intOf]; omega
          · have HQ := Lib.hid hq
            clear hmo hq
            go_wp2_with fail
            go_roundw
            case rel => exact ⟨j + 1, r, rfl, by go_num, by omega, Lib.hid (by rw [cnt_succ, HQ.out]; have := HJ.out; simp; omega), by omega, trivial⟩
            case measure => simp [intOf]; omega
        · obtain rfl : j = t.size := by omega
          obtain rfl : r = 0 := by have := HJ.out; rw [HCT.out] at this; omega
          go_wp2_with fail
          go_ret
          exact ⟨rfl, bstep HB13.out hb⟩
end Go.Proofs.Ythemlhkdgaeogaa
