/-
  The walk of SuffixOrder: ends ascend, all of them, each once, and beside each other they have in common what is told.
-/
import Derived.Test.YtfpdobjnmnbneaaSufF
import Derived.Test.YtfpdobjnmnbneaaSufU
import Derived.Test.YtfpdobjnmnbneaaFew
import Derived.BigQuiet
namespace Go.Proofs.Ytfpdobjnmnbneaa
open Go.RowKit
set_option linter.unusedVariables false
set_option linter.unusedSimpArgs false

theorem sbool_info : (Try.prog.info? 4).map (fun i => (i.zero, i.size, i.bytes)) = some (some (.bool false), 1, 1) := by kernel_rfl
set_option maxRecDepth 100000 in
set_option maxHeartbeats 8000000 in
theorem suffixOrder_walk (w : World) (v : Value) (xs : List Int) (hr : Row .i64 w v xs) :
    Calls Try.prog 3 #[v] w fun e w' => e = .returned (.bool true) ∧ Below w.heap.size w w' := by
  have FW := Lib.hid (few_any v xs 80 w hr (by omega) (by omega))
  go_enter Try.func3, Try.ntmps3
  go_wp2_with fail
  refine FW.out.mono ?_
  rintro e w1 ⟨s0, rfl, hs0, HB⟩
  have hz0 : s0.size ≤ 80 := by
    have h1 : s0.data.toList.length = s0.size := by simp
    have h2 := congrArg List.length hs0
    rw [h1, List.length_map, List.length_take] at h2
    have : Int.toNat 80 = 80 := rfl
    omega
  clear hs0 FW
  go_wp2_with fail
  obtain ⟨s, hs⟩ : ∃ s, s0 ++ (⟨#[98]⟩ : ByteArray) = s := ⟨_, rfl⟩
  have hsz : 0 < s.size ∧ s.size ≤ 81 := by rw [← hs, ByteArray.size_append, size_one]; omega
  rw [hs]
  clear hs
  obtain ⟨hs1, hs2⟩ := hsz
  refine (sufSort2_any s (by omega) w1).mono ?_
  rintro e w2 ⟨g, o, p, rfl, hg, HE, RG, HB2⟩
  go_wp2_with fail
  refine (sufCommon2_any s (by omega) w2).mono ?_
  rintro e w3 ⟨h, o', p', rfl, hh, HE', RH, HB3⟩
  have EU := ends_unique HE HE'
  have RG3 := rowIs_later RG HB3
  have RH3 : w3.rowIs h 3 s.size (fun k => .int .i64 (cmn s.data.toList o k : Int)) := RH.congr (fun j hj => by rw [cmn_congr EU j hj])
  have HBB := bstep (bstep HB HB2) HB3
  have HEE := Lib.hid HE
  have hmk : (Instr.makeSlice 27 (.int .i64 (s.size : Int)) (.int .i64 (s.size : Int))).run Try.prog w3 = .ok (.slice (some ⟨w3.heap.size, 0, none⟩) s.size s.size) (w3.alloc (.cells (madeCells #[.bool false] s.size) 4)) :=
    run_make_row' (P := Try.prog) 27 4 (.bool false) 1 Try.underlying27 sbool_info rfl .i64 .i64 s.size (by omega) (by omega) w3
  have l1 := HB2.size
  have l2 := RG.lt
  have l3 := HB3.size
  clear RG RH HB HB2 HB3 HE HE' EU
  go_wp2_with fail
  clear hmk
  have RG4 := RG3.alloc (.cells (madeCells #[.bool false] s.size) 4)
  have RH4 := RH3.alloc (.cells (madeCells #[.bool false] s.size) 4)
  have RS4 := World.rowIs_made w3 (.bool false) s.size 4
  have HB4 := HBB.alloc HBB.size (.cells (madeCells #[.bool false] s.size) 4)
  have l4 := RH3.lt
  have l5 := RG3.lt
  have l6 := HBB.size
  clear RG3 RH3 HBB
  generalize w3.alloc (.cells (madeCells #[.bool false] s.size) 4) = w4 at *
  generalize w3.heap.size = sb at *
  have d1 : sb ≠ g := by omega
  have d2 : sb ≠ h := by omega
  go_loopw [9] (fun vi W => ∃ i : Nat, i ≤ s.size ∧ vi = .int .i64 (i : Int) ∧ W.rowIs g 3 s.size (fun k => .int .i64 (o k : Int)) ∧ W.rowIs h 3 s.size (fun k => .int .i64 (cmn s.data.toList o k : Int)) ∧ W.rowIs sb 4 s.size (fun j => .bool (decide (p j < i))) ∧ Below w.heap.size w W) (fun vi _ => s.size - (intOf vi).toNat)
  case atStart => exact ⟨0, Nat.zero_le _, rfl, RG4, RH4, RS4.congr (fun j hj => by simp), HB4⟩
  case round =>
    clear RG4 RH4 RS4 HB4
    obtain ⟨i, hi, rfl, RG, RH, RS, HB⟩ := hrel
    by_cases hlt : i < s.size
    · have i0 : (0 : Int) ≤ (i : Int) := by omega
      have i1 : (i : Int) < (s.size : Int) := by omega
      have a1 := RG.cell hlt
      obtain ⟨o1, o2, o3, o4⟩ := HEE.out.1 i hlt
      have a2 := RS.cell o1
      rw [o3, decide_eq_false (by omega)] at a2
      have a3 := RH.cell hlt
      have a4 := RS.frozen (o i)
      obtain ⟨oi, hoi⟩ : ∃ oi, o i = oi := ⟨_, rfl⟩
      rw [hoi] at a1 a2 a4 o1 o3
      have HOI := Lib.hid hoi
      have O3 := Lib.hid o3
      have b0 : decide ((oi : Int) < 0) = false := decide_eq_false (by omega)
      have b1 : decide (s.size ≤ oi) = false := decide_eq_false (by omega)
      have b2 : (0 : Int) ≤ (oi : Int) := by omega
      have b3 : (oi : Int) < (s.size : Int) := by omega
      clear o2 o3 o4 hoi
      rcases Nat.eq_zero_or_pos i with hz | hpos
      · have HZ := Lib.hid hz
        have c1 : decide ((0 : Int) < (i : Int)) = false := decide_eq_false (by omega)
        have c2 : decide (0 < i) = false := decide_eq_false (by omega)
        have c3 : ((i : Int) == 0) = true := beq_iff_eq.2 (by omega)
        clear hz
        go_wp2_with fail
        go_quiet (fail)
        go_wp2_with fail
        refine ⟨⟨i + 1, by omega, by go_num, RG.setOther (a := ⟨sb, oi, none⟩) d1.symm _, RH.setOther (a := ⟨sb, oi, none⟩) d2.symm _, (RS.set oi _).congr (fun j hj => ?_), below_drewN (HB.setCell (p := ⟨sb, oi, none⟩) l6 _) _⟩, by simp [intOf]; omega⟩
        by_cases e : j = oi
        · subst e
          rw [if_pos rfl, O3.out, decide_eq_true (by omega)]
        · have : p j ≠ i := fun e2 => e (by rw [← HOI.out, ← e2, (HEE.out.1 j hj).2.2.2])
          rw [if_neg e]
          congr 1
          by_cases q : p j < i
          · rw [decide_eq_true q, decide_eq_true (by omega)]
          · rw [decide_eq_false q, decide_eq_false (by omega)]
      · have c1 : decide ((0 : Int) < (i : Int)) = true := decide_eq_true (by omega)
        have c2 : decide (0 < i) = true := decide_eq_true (by omega)
        have c3 : ((i : Int) == 0) = false := beq_eq_false_iff_ne.2 (by omega)
        obtain ⟨km, hkm⟩ : ∃ km, i - 1 = km := ⟨_, rfl⟩
        have hwk : IntKind.i64.wrap ((i : Int) - 1) = (km : Int) := by rw [IntWalk.i64_in _ (by omega)]; omega
        have j0 : (0 : Int) ≤ (km : Int) := by omega
        have j1 : (km : Int) < (s.size : Int) := by omega
        have a5 := RG.cell (show km < s.size by omega)
        have ol1 := (HEE.out.1 km (by omega)).1
        obtain ⟨ol, hol⟩ : ∃ ol, o km = ol := ⟨_, rfl⟩
        rw [hol] at a5 ol1
        have HUP : Hid (s.data.toList.drop ol < s.data.toList.drop oi) := Lib.hid (by have := HEE.out.2 km i (by omega) hlt; rw [hol, HOI.out] at this; exact this)
        obtain ⟨C, hC⟩ : ∃ C, cmn s.data.toList o i = C := ⟨_, rfl⟩
        have HC : Hid (lcp (s.data.toList.drop oi) (s.data.toList.drop ol) = C) := Lib.hid (by rw [← hC, cmn_pos _ _ _ (by omega), HOI.out, hkm, hol])
        rw [hC] at a3
        have HKM := Lib.hid hkm
        have HOL := Lib.hid hol
        clear hkm hol hC
        have k2 : (0 : Int) ≤ (ol : Int) := by omega
        have k3 : (ol : Int) ≤ (s.size : Int) := by omega
        have k4 : (oi : Int) ≤ (s.size : Int) := by omega
        have eA : (s.extract ol s.size).toList = s.data.toList.drop ol := by rw [ByteArray.toList_eq, ByteArray.data_extract, Array.toList_extract, List.extract]; exact List.take_of_length_le (by simp)
        have eB : (s.extract oi s.size).toList = s.data.toList.drop oi := by rw [ByteArray.toList_eq, ByteArray.data_extract, Array.toList_extract, List.extract]; exact List.take_of_length_le (by simp)
        have gL : Op.bytesLess (s.extract ol s.size).toList (s.extract oi s.size).toList = true := by rw [bytesLess_eq, eA, eB]; exact decide_eq_true HUP.out
        have EA := Lib.hid eA
        have EB := Lib.hid eB
        clear eA eB
        go_wp2_with fail
        go_quiet (fail)
        go_wp2_with fail
        generalize s.extract ol s.size = A at *
        generalize s.extract oi s.size = B at *
        have RG2 := RG.setOther (a := ⟨sb, oi, none⟩) d1.symm (.bool true)
        have RH2 := RH.setOther (a := ⟨sb, oi, none⟩) d2.symm (.bool true)
        have RS2 := RS.set oi (.bool true)
        have HB2 := HB.setCell (p := ⟨sb, oi, none⟩) l6 (.bool true)
        have a6 := RH2.cell hlt
        rw [show cmn s.data.toList o i = C from by rw [← HC.out, cmn_pos _ _ _ hpos, HOI.out, HKM.out, HOL.out]] at a6
        clear a1 a2 a3 a4 a5 RG RH RS HB gL
        generalize wr.setCell ⟨sb, oi, none⟩ (.bool true) = wx at *
        have sA : A.size = s.size - ol := by have := congrArg List.length EA.out; rw [ByteArray.toList_eq] at this; simpa using this
        have sB : B.size = s.size - oi := by have := congrArg List.length EB.out; rw [ByteArray.toList_eq] at this; simpa using this
        have lc := lcp_le (s.data.toList.drop oi) (s.data.toList.drop ol)
        rw [HC.out, List.length_drop, List.length_drop] at lc
        have lc1 : C ≤ A.size := by have := lc.2; simp at this; omega
        have lc2 : C ≤ B.size := by have := lc.1; simp at this; omega
        have SA := Lib.hid sA
        have SB := Lib.hid sB
        clear sA sB lc
        have t0 : decide ((C : Int) < 0) = false := decide_eq_false (by omega)
        have t1 : decide (min (A.size : Int) (B.size : Int) < (C : Int)) = false := decide_eq_false (by omega)
        have t2 : (0 : Int) ≤ (C : Int) := by omega
        have t3 : (C : Int) ≤ (A.size : Int) := by omega
        have t4 : (C : Int) ≤ (B.size : Int) := by omega
        have eT : (A.extract 0 C).toList = (B.extract 0 C).toList := by
          have h1 := lcp_take (s.data.toList.drop oi) (s.data.toList.drop ol) C (by rw [HC.out]; exact Nat.le_refl _)
          rw [← EA.out, ← EB.out] at h1
          rw [ByteArray.toList_eq, ByteArray.toList_eq] at *
          simp only [ByteArray.data_extract, Array.toList_extract, List.extract, Nat.sub_zero, List.drop_zero]
          exact h1.symm
        have t5 : ((A.extract 0 C).toList == (B.extract 0 C).toList) = true := beq_iff_eq.2 eT
        have ET := Lib.hid eT
        clear eT
        by_cases hm : C < A.size ∧ C < B.size
        · obtain ⟨m1, m2⟩ := hm
          have u1 : decide ((C : Int) < min (A.size : Int) (B.size : Int)) = true := decide_eq_true (by omega)
          have u2 : (C : Int) < (A.size : Int) := by omega
          have u3 : (C : Int) < (B.size : Int) := by omega
          have u4 : ((A[C].toNat : Int) == (B[C].toNat : Int)) = false := beq_eq_false_iff_ne.2 (fun e => by
            have h1 := lcp_next (s.data.toList.drop oi) (s.data.toList.drop ol) (by rw [HC.out, List.length_drop]; have := SB.out; simp; omega) (by rw [HC.out, List.length_drop]; have := SA.out; simp; omega)
            simp only [HC.out] at h1
            have eA := EA.out
            have eB := EB.out
            rw [ByteArray.toList_eq] at eA eB
            apply h1
            have g1 : (s.data.toList.drop oi)[C]'(by rw [← eB]; simpa using m2) = B[C] := by simp only [← eB]; rfl
            have g2 : (s.data.toList.drop ol)[C]'(by rw [← eA]; simpa using m1) = A[C] := by simp only [← eA]; rfl
            rw [g1, g2]
            exact UInt8.toNat.inj (by
              have e' : B[C].toNat = A[C].toNat := by omega
              exact e'))
          go_quiet (fail)
          go_wp2_with fail
          refine ⟨⟨i + 1, by omega, by go_num, RG2, RH2, RS2.congr (fun j hj => ?_), below_drewN HB2 _⟩, by simp [intOf]; omega⟩
          by_cases e : j = oi
          · subst e
            rw [if_pos rfl, O3.out, decide_eq_true (by omega)]
          · have : p j ≠ i := fun e2 => e (by rw [← HOI.out, ← e2, (HEE.out.1 j hj).2.2.2])
            rw [if_neg e]
            congr 1
            by_cases q : p j < i
            · rw [decide_eq_true q, decide_eq_true (by omega)]
            · rw [decide_eq_false q, decide_eq_false (by omega)]
        · have u1 : decide ((C : Int) < min (A.size : Int) (B.size : Int)) = false := decide_eq_false (by omega)
          go_quiet (fail)
          go_wp2_with fail
          refine ⟨⟨i + 1, by omega, by go_num, RG2, RH2, RS2.congr (fun j hj => ?_), below_drewN HB2 _⟩, by simp [intOf]; omega⟩
          by_cases e : j = oi
          · subst e
            rw [if_pos rfl, O3.out, decide_eq_true (by omega)]
          · have : p j ≠ i := fun e2 => e (by rw [← HOI.out, ← e2, (HEE.out.1 j hj).2.2.2])
            rw [if_neg e]
            congr 1
            by_cases q : p j < i
            · rw [decide_eq_true q, decide_eq_true (by omega)]
            · rw [decide_eq_false q, decide_eq_false (by omega)]
    · obtain rfl : i = s.size := by omega
      have a1 := RH.cell hs1
      rw [show cmn s.data.toList o 0 = 0 from rfl] at a1
      have b1 : (0 : Int) < (s.size : Int) := by omega
      go_wp2_with fail
      go_ret
      exact ⟨rfl, HB⟩
end Go.Proofs.Ytfpdobjnmnbneaa
