/-
  The walk of lines.Updated: the starts of lines behind an edit. Conditions: all numbers are small. Nothing that was there is changed.
-/
import Derived.Test.YtcgcakmpjeodfaaSrch
import Derived.Test.YtcgcakmpjeodfaaCopy
import Derived.Test.YtcgcakmpjeodfaaReg
namespace Go.Proofs.Ytcgcakmpjeodfaa
open Go.RowKit
set_option linter.unusedVariables false

def UpdPost (L : List Int) (e : Ed) (w : World) (z : Ending) (w' : World) : Prop :=
  ∃ v, z = .returned v ∧ Row .i64 w' v (updated L e) ∧ Below w.heap.size w w'
set_option maxRecDepth 100000 in
set_option maxHeartbeats 4000000 in
theorem updated_any (v : Value) (L : List Int) (e : Ed) (w : World) (h : Row .i64 w v L) (hs : ∀ i j, i ≤ j → j < L.length → L.getD i 0 ≤ L.getD j 0) (hl : L.length ≤ 1000) (hL : ∀ x ∈ L, 0 ≤ x ∧ x ≤ 1000)
    (hp : e.p ≤ 1000) (hc : e.c ≤ 1000) (hu : e.put.size ≤ 1000) :
    Calls Try.prog 53 #[v, edv e] w (UpdPost L e w) := by
  have SI := Lib.hid (fun (x : Int) W (h : Row .i64 W v L) => searchInts_any v L x W h hs (by omega))
  obtain ⟨p, c, put⟩ := e
  simp only at hp hc hu
  unfold edv
  simp only
  have k1 := lessThan_le ((p : Int) + 1) L
  have k2 := lessThan_le ((p : Int) + (c : Int) + 1) L
  have HU := Lib.hid (show updated L ⟨p, c, put⟩ = L.take (lessThan ((p : Int) + 1) L) ++ nls put.data.toList p ++ (L.drop (lessThan ((p : Int) + (c : Int) + 1) L)).map (fun n => n + (put.size : Int) - (c : Int)) from rfl)
  have S1 := Lib.hid (SI.out ((p : Int) + 1))
  have S2 := Lib.hid (SI.out ((p : Int) + (c : Int) + 1))
  generalize lessThan ((p : Int) + 1) L = a at *
  generalize lessThan ((p : Int) + (c : Int) + 1) L = b at *
  clear SI
  have hLb : ∀ i, 0 ≤ L.getD i 0 ∧ L.getD i 0 ≤ 1000 := by
    intro i
    by_cases hi : i < L.length
    · exact hL _ (by simp [List.getD, hi])
    · simp [List.getD, List.getElem?_eq_none (show L.length ≤ i by omega)]
  have HLB := Lib.hid hLb
  have HWF : Hid (∀ np : List Int, (∀ x ∈ np, -1 ≤ x ∧ x ≤ 100000) → ∀ x ∈ L.take a ++ np, (Lit.int IntKind.i64 x).wf = true) := Lib.hid (by
    intro np hnp x hx
    rcases List.mem_append.1 hx with hx | hx
    · have := hL x (List.mem_of_mem_take hx); exact wf_i64 x (by omega)
    · have := hnp x hx; exact wf_i64 x (by omega))
  have HNP : Hid (∀ x ∈ nls put.data.toList p, -1 ≤ x ∧ x ≤ 100000) := Lib.hid (by
    intro x hx; have := nls_bd _ _ x hx; have h2 : put.data.toList.length = put.size := by simp
    omega)
  have HL := Lib.hid hL
  clear hLb hL hs
  obtain ⟨A, cap, rfl, hlc, hcap, hwf, hrd⟩ := id h
  unfold maxLen at hcap
  have T1 := Three.new w (.int .i64 p) (.int .i64 c) (.string put) 37
  have r1 := h.later ((Below.refl w.heap.size w).alloc (Nat.le_refl _) (Obj.cells #[.int .i64 p, .int .i64 c, .string put] 37))
  have kk := (Below.refl w.heap.size w).alloc (Nat.le_refl _) (Obj.cells #[.int .i64 p, .int .i64 c, .string put] 37)
  have R1 := Lib.hid r1
  have R0 := Lib.hid h
  clear hrd h r1
  go_enter Try.func53, Try.ntmps53
  go_wp2_with fail
  refine (S1.out _ R1.out).mono ?_
  rintro e w1 ⟨rfl, hb1⟩
  replace T1 := T1.later hb1
  replace R1 := Lib.hid (R1.out.later hb1)
  replace kk := bstep kk hb1
  clear hb1
  obtain ⟨g1, x0, x1, x2⟩ := id T1
  have HT := Lib.hid T1
  clear T1
  go_wp2_with fail
  refine (S2.out _ R1.out).mono ?_
  rintro e w2 ⟨rfl, hb2⟩
  replace HT := Lib.hid (HT.out.later hb2)
  replace R1 := Lib.hid (R1.out.later hb2)
  replace kk := bstep kk hb2
  clear hb2 g1 x0 x1 x2
  obtain ⟨g1, x0, x1, x2⟩ := HT.out
  have gg : w.heap.size + 1 ≤ w2.heap.size := g1
  have hta : (L.take a).length = a := by rw [List.length_take]; omega
  have HTA := Lib.hid hta
  clear hta
  go_wp2_with (at_builtin; refine wpList_copy rfl (.tmp 26) _ rfl 3 _ 1 8 Try.underlying22 int_info rfl (by decide) A a cap ((L.take a).map (.int .i64)) rfl (by have := (R1.out.take (y := a) k1); obtain ⟨A', c', hv, _, _, _, hr⟩ := this; injection hv with q1 q2 q3; subst q1; rw [HTA.out] at hr; exact hr) (ints_one _) (by omega) (by omega) ?_)
  intro v3 w3 o3 hb3
  replace HT := Lib.hid (HT.out.later hb3)
  replace R1 := Lib.hid (R1.out.later hb3)
  have hw2 := kk.size
  replace kk := bstep kk hb3
  have o3' := own_mono (base' := w.heap.size + 1) o3 (by omega)
  clear hb3 g1 x0 x1 x2 o3 hw2
  obtain ⟨g1, x0, x1, x2⟩ := HT.out
  go_wp2_with fail
  clear g1 x0 x1 x2
  obtain ⟨B, hB⟩ : ∃ B, B = w.heap.size + 1 := ⟨_, rfl⟩
  rw [← hB] at o3'
  have hBw : B ≤ w3.heap.size := by have := HT.out.1; omega
  have HBE := Lib.hid hB
  have hB1 : w.heap.size < B := by omega
  have hB2 : w.heap.size ≤ B := by omega
  clear hB
  go_loopw [7, 31] (fun o i wr => ∃ k : Nat, k ≤ put.size ∧ i = .int .i64 k ∧ wr.ownsRow B 3 1 o (a + (nls (put.data.toList.take k) p).length) ((L.take a ++ nls (put.data.toList.take k) p).map (.int .i64)) ∧ Below B w3 wr) (fun _ i _ => put.size - (intOf i).toNat)
  case atStart => exact ⟨0, Nat.zero_le _, rfl, by simpa [nls] using o3', Below.refl _ _⟩
  case round =>
    obtain ⟨k, hk, rfl, hown, hbel⟩ := hrel
    have hwr := hbel.size
    by_cases hlt : k < put.size
    · have hsn := nls_append (put.data.toList.take k) [put[k]] p
      rw [← take_snoc put k hlt] at hsn
      have hlk : (put.data.toList.take k).length = k := by simp; omega
      rw [hlk] at hsn
      have hln := nls_len (put.data.toList.take k) p
      rw [hlk] at hln
      have hby := byte_lt put[k]
      obtain ⟨g1, x0, x1, x2⟩ := HT.out.under hB1 hbel
      by_cases hten : put[k] = 10
      · have hq : ((put[k].toNat : Int) == 10) = true := by rw [hten]; rfl
        have H1 : Hid (nls (put.data.toList.take (k + 1)) p = nls (put.data.toList.take k) p ++ [(p : Int) + k + 1]) := Lib.hid (by rw [hsn]; simp [nls, hten])
        clear hsn hlk hten
        go_wp2_with (at_builtin; refine wpList_app1 rfl (.tmp 39) (.tmp 45) _ rfl B 3 _ 8 Try.underlying22 int_info rfl _ _ _ rfl hown (.int .i64 ((p : Int) + (k : Int) + 1)) rfl rfl rfl (by omega) (by omega) (by omega) ?_)
        intro v' w1 hown' hbel' _
        replace hbel' := hbel' _ (Nat.le_refl _) _ hbel
        clear x0 x1 x2 g1
        go_wp2_with fail
        go_roundw
        case rel =>
          refine ⟨k + 1, by omega, by go_num, ?_, hbel'⟩
          rw [H1.out, List.length_append, ← List.append_assoc, List.map_append, List.map_append]
          simpa [Nat.add_assoc] using hown'
        case measure => simp [intOf]; omega
      · have hq : ((put[k].toNat : Int) == 10) = false := by
          rw [beq_eq_false_iff_ne]; intro e; exact hten (UInt8.toNat_inj.1 (by have : (10 : UInt8).toNat = 10 := rfl; omega))
        have H1 : Hid (nls (put.data.toList.take (k + 1)) p = nls (put.data.toList.take k) p) := Lib.hid (by rw [hsn]; simp [nls, hten])
        clear hsn hlk hten
        go_wp2_with fail
        go_roundw
        case rel => exact ⟨k + 1, by omega, by go_num, by rw [H1.out]; exact hown, hbel⟩
        case measure => simp [intOf]; omega
    · have H1 := Lib.hid (take_all put k (by omega))
      rw [H1.out] at hown
      have hnl := nls_len put.data.toList p
      have hpl : put.data.toList.length = put.size := by simp
      rw [hpl] at hnl
      clear hpl
      have HNP' : Hid (∀ x ∈ nls put.data.toList p, -1 ≤ x ∧ x ≤ 100000) := Lib.hid HNP.out
      clear HNP
      generalize nls put.data.toList p = np at *
      have hlt' : decide ((k : Int) < (put.size : Int)) = false := by simp; omega
      have hwfu : ∀ x ∈ L.take a ++ np, (Lit.int IntKind.i64 x).wf = true := HWF.out np HNP'.out
      have HWFU := Lib.hid hwfu
      clear hwfu HWF HNP'
      by_cases hbl : b < L.length
      · obtain ⟨bA, oA, rfl, hbA, hcA⟩ : ∃ bA oA, A = some ⟨bA, oA, none⟩ ∧ bA < w.heap.size ∧ ∀ i, i < L.length → w.cell? ⟨bA, oA + i, none⟩ = some (.int .i64 (L.getD i 0)) := by
          obtain ⟨A', c', hv, _, _, _, hr⟩ := R0.out
          injection hv with q1 q2 q3
          subst q1
          obtain ⟨bA, oA, e1, e2, e3⟩ := hr.plain (by omega) (by omega)
          exact ⟨bA, oA, e1, e2, fun i hi => e3 i _ (by simp [List.getD, hi])⟩
        have HCA := Lib.hid hcA
        clear hcA
        have hcb : ¬ cap = b := by omega
        have hkw := kk.trans (hbel.mono hB2)
        go_wp2_with fail
        have hM : (L.drop b).length = L.length - b := List.length_drop ..
        have HM := Lib.hid hM
        clear hM
        have HB3 := Lib.hid hbel
        clear hkw
        obtain ⟨wo, rfl⟩ : ∃ wo : World, wo = wr := ⟨_, rfl⟩
        go_loopw [7, 52] (fun o i wr => ∃ j : Nat, j ≤ L.length - b ∧ i = .int .i64 j ∧ wr.ownsRow B 3 1 o (a + np.length + j) ((L.take a ++ np ++ ((L.drop b).take j).map (fun n => n + (put.size : Int) - (c : Int))).map (.int .i64)) ∧ Below B w3 wr) (fun _ i _ => L.length - b - (intOf i).toNat)
        case atStart => exact ⟨0, Nat.zero_le _, rfl, by simpa using hown, HB3.out⟩
        case round =>
          obtain ⟨j, hj, rfl, hown2, hbel2⟩ := hrel
          have hwr2 := hbel2.size
          by_cases hlt2 : j < L.length - b
          · obtain ⟨g1, x0, x1, x2⟩ := HT.out.under hB1 hbel2
            have hx := HCA.out (b + j) (by omega)
            rw [← (kk.trans (hbel2.mono hB2)).cell (p := ⟨bA, oA + (b + j), none⟩) hbA, ← Nat.add_assoc] at hx
            obtain ⟨y0, y1⟩ := HLB.out (b + j)
            have hsn : (L.drop b).take (j + 1) = (L.drop b).take j ++ [L.getD (b + j) 0] := by
              rw [List.take_succ_eq_append_getElem (by rw [HM.out]; exact hlt2)]
              have hb2 : b + j < L.length := by omega
              simp [List.getD, hb2]
            have HS := Lib.hid hsn
            clear hsn
            generalize L.getD (b + j) 0 = y at *
            go_wp2_with (at_builtin; refine wpList_app1 rfl (.tmp 56) (.tmp 65) _ rfl B 3 _ 8 Try.underlying22 int_info rfl _ _ _ rfl hown2 (.int .i64 (y + (put.size : Int) - (c : Int))) rfl rfl rfl (by omega) (by omega) (by omega) ?_)
            intro v' w4 hown' hbel' _
            replace hbel' := hbel' _ (Nat.le_refl _) _ hbel2
            clear x0 x1 x2 g1 hx
            go_wp2_with fail
            go_roundw
            case rel =>
              refine ⟨j + 1, by omega, by go_num, ?_, hbel'⟩
              rw [HS.out]
              simpa [Nat.add_assoc] using hown'
            case measure => simp [intOf]; omega
          · have HJ : Hid ((L.drop b).take j = L.drop b) := Lib.hid (List.take_of_length_le (by rw [HM.out]; omega))
            have hlt2' : decide ((j : Int) < ((L.length - b : Nat) : Int)) = false := by simp; omega
            have HJ2 := Lib.hid (show j = L.length - b by omega)
            rw [HJ.out] at hown2
            go_wp2_with fail
            go_ret
            refine ⟨_, rfl, row_of_own (e := 3) (base := B) ?_ ?_, kk.trans (hbel2.mono hB2)⟩
            · rw [HU.out]
              have e1 : (L.take a ++ np ++ (L.drop b).map (fun n => n + (put.size : Int) - (c : Int))).length = a + np.length + j := by
                rw [List.length_append, List.length_append, HTA.out, List.length_map, HM.out, ← HJ2.out]
              rw [e1]; exact hown2
            · rw [HU.out]
              intro x hx
              rcases List.mem_append.1 hx with hx | hx
              · exact HWFU.out x hx
              · obtain ⟨y, hy, rfl⟩ := List.mem_map.1 hx
                have := HL.out y (List.mem_of_mem_drop hy)
                exact wf_i64 _ (by omega)
      · have HLB2 := Lib.hid (show L.length = b by omega)
        by_cases hcb : cap = b
        · have hz : L.length - b = 0 := by omega
          have HD : Hid (L.drop b = []) := Lib.hid (List.drop_eq_nil_of_le (by omega))
          go_wp2_with fail
          refine wp_loop_rounds 1 ?_
          rw [rounds_succ]
          go_wp2_with fail
          go_ret
          refine ⟨_, rfl, row_of_own (e := 3) (base := B) ?_ ?_, kk.trans (hbel.mono hB2)⟩
          · rw [HU.out, HD.out, List.map_nil, List.append_nil]
            have e1 : (L.take a ++ np).length = a + np.length := by rw [List.length_append, HTA.out]
            rw [e1]; exact hown
          · rw [HU.out, HD.out, List.map_nil, List.append_nil]; exact HWFU.out
        · have hz : L.length - b = 0 := by omega
          have HD : Hid (L.drop b = []) := Lib.hid (List.drop_eq_nil_of_le (by omega))
          go_wp2_with fail
          refine wp_loop_rounds 1 ?_
          rw [rounds_succ]
          go_wp2_with fail
          go_ret
          refine ⟨_, rfl, row_of_own (e := 3) (base := B) ?_ ?_, kk.trans (hbel.mono hB2)⟩
          · rw [HU.out, HD.out, List.map_nil, List.append_nil]
            have e1 : (L.take a ++ np).length = a + np.length := by rw [List.length_append, HTA.out]
            rw [e1]; exact hown
          · rw [HU.out, HD.out, List.map_nil, List.append_nil]; exact HWFU.out
end Go.Proofs.Ytcgcakmpjeodfaa
