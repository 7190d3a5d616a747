/-
  The law TopLooks, walked: three ways of looking for a text give the same places.
-/
import Derived.Test.YtacjckocjngfoaaMany
import Derived.Test.YtacjckocjngfoaaOpen
import Derived.Test.YtacjckocjngfoaaFew
import Derived.Test.YtacjckocjngfoaaSufG
import Derived.BigQuiet
import Derived.Deep.QuietTactic
namespace Go.Proofs.Ytacjckocjngfoaa
open Go.RowKit
set_option linter.unusedVariables false
set_option linter.unusedSimpArgs false


set_option maxRecDepth 100000 in
set_option maxHeartbeats 2000000 in
theorem sameTop_any (v1 v2 : Value) (xs ys : List Int) (w : World) (h1 : Row .i64 w v1 xs) (h2 : Row .i64 w v2 ys) :
    Calls Try.prog 10 #[v1, v2] w fun e w' => e = .returned (.bool (decide (xs = ys))) ∧ Below w.heap.size w w' := by
  obtain ⟨A1, c1, rfl, hl1, hc1, _, hr1⟩ := h1
  obtain ⟨A2, c2, rfl, hl2, hc2, _, hr2⟩ := h2
  unfold maxLen at hc1 hc2
  by_cases hl : xs.length = ys.length
  · have hb1 : ((ys.length : Int) != (ys.length : Int)) = false := by simp
    rw [hl] at hr1 hl1 ⊢
    have HL := Lib.hid hl
    clear hl
    obtain ⟨r, hr⟩ : ∃ r, decide (xs = ys) = r := ⟨_, rfl⟩
    rw [hr]
    have HR := Lib.hid hr
    clear hr
    go_enter Try.func10, Try.ntmps10
    go_wp2_with fail
    go_loopw [5] (fun i wr => ∃ k q : Nat, k ≤ ys.length ∧ i = .int .i64 k ∧ Hid (xs.take k = ys.take k) ∧ wr = w.drewN q) (fun i _ => ys.length - (intOf i).toNat)
    case atStart => exact ⟨0, 0, Nat.zero_le _, rfl, Lib.hid rfl, rfl⟩
    case round =>
      obtain ⟨k, q, hk, rfl, HT, rfl⟩ := hrel
      by_cases hlt : k < ys.length
      · have hlx : k < xs.length := by rw [HL.out]; exact hlt
        obtain ⟨b1, o1, rfl, _, x1⟩ := Row.at_ (xs := xs) (by rw [HL.out]; exact hr1) hlx
        obtain ⟨b2, o2, rfl, _, x2⟩ := Row.at_ hr2 hlt
        have g1 : xs.getD k 0 = xs[k] := by simp [List.getD, hlx]
        have g2 : ys.getD k 0 = ys[k] := by simp [List.getD, hlt]
        rw [g1] at x1
        rw [g2] at x2
        have hk0 : (0 : Int) ≤ (k : Int) := by omega
        have hk1 : (k : Int) < (ys.length : Int) := by omega
        by_cases he : xs[k] = ys[k]
        · have HT2 := Lib.hid (show xs.take (k + 1) = ys.take (k + 1) by rw [List.take_succ_eq_append_getElem hlx, List.take_succ_eq_append_getElem hlt, HT.out, he])
          rw [he] at x1
          have hb : (ys[k] != ys[k]) = false := by simp
          clear g1 g2 he hb1
          generalize ys[k] = y at *
          go_wp2_with fail
          go_quiet (fail)
          go_wp2_with fail
          go_roundw
          case rel => exact ⟨k + 1, q + nq, by omega, by go_num, HT2, rfl⟩
          case measure => simp [intOf]; omega
        · have hne : decide (xs = ys) = false := by
            rw [decide_eq_false_iff_not]; intro e; subst e; exact he rfl
          have HNE := Lib.hid hne
          have hb : (xs[k] != ys[k]) = true := by rw [bne_iff_ne]; exact he
          clear g1 g2 he hb1 hne
          generalize ys[k] = y at *
          generalize xs[k] = x at *
          go_wp2_with fail
          go_quiet (fail)
          go_wp2_with fail
          go_ret
          exact ⟨ret_bool (by rw [← HR.out]; exact HNE.out.symm), below_drewN (below_drewN (Below.refl _ _) _) _⟩
      · have hfin : decide (xs = ys) = true := by
          rw [decide_eq_true_iff]
          have := HT.out
          rwa [List.take_of_length_le (by rw [HL.out]; omega), List.take_of_length_le (by omega)] at this
        have HFIN := Lib.hid hfin
        clear hfin
        go_wp2_with fail
        go_ret
        exact ⟨ret_bool (by rw [← HR.out]; exact HFIN.out.symm), below_drewN (Below.refl _ _) _⟩
  · have hne : decide (xs = ys) = false := by rw [decide_eq_false_iff_not]; intro e; subst e; exact hl rfl
    rw [hne]
    have hb1 : ((xs.length : Int) != (ys.length : Int)) = true := by rw [bne_iff_ne]; omega
    clear hne hl
    go_enter Try.func10, Try.ntmps10
    go_wp2_with fail
    go_ret
    exact ⟨rfl, Below.refl _ _⟩

theorem few_size3 (xs : List Int) (n : Nat) (s : ByteArray) (h : s.data.toList = (xs.take n).map ab) : s.size ≤ n := by
  have h2 : s.data.toList.length = s.size := by simp
  rw [← h2, h]; simp; omega
theorem occ_two : occ ⟨#[97, 97]⟩ ⟨#[97]⟩ = [0, 1] := by decide +kernel
theorem occF_L (S F : List UInt8) : occF S F = occL S F := rfl
theorem tint_info : (Try.prog.info? 3).map (fun i => (i.zero, i.size, i.bytes)) = some (some (.int .i64 0), 1, 8) := by kernel_rfl
theorem unlike (x y : ByteArray) : (x ++ ⟨#[97]⟩ : ByteArray) ≠ y ++ ⟨#[98]⟩ := by
  intro h
  have h2 := congrArg (fun b : ByteArray => b.data.toList.getLast?) h
  simp [ByteArray.data_append] at h2
theorem plus_size (x y : ByteArray) (h : y.size = 1) : (x ++ y).size = x.size + 1 := by rw [ByteArray.size_append, h]
set_option maxRecDepth 100000 in
set_option maxHeartbeats 16000000 in
theorem topLooks_walk (w : World) (v0 : Value) (xs : List Int) (h0 : Row .i64 w v0 xs) (v1 : Value) (ys : List Int) (h1 : Row .i64 w v1 ys) (v2 : Value) (zs : List Int) (h2 : Row .i64 w v2 zs) :
    Calls Try.prog 4 #[v0, v1, v2] w fun e w' => e = .returned (.bool true) ∧ Below w.heap.size w w' := by
  have HF0 := Lib.hid (few_any v0 xs 80 w h0 (by omega) (by omega))
  have H1 := Lib.hid h1
  have H2 := Lib.hid h2
  clear h0 h1 h2
  go_enter Try.func4, Try.ntmps4
  go_wp2_with fail
  refine HF0.out.mono ?_
  rintro e w1 ⟨s, rfl, hs, hb1⟩
  have hss := few_size3 _ _ _ hs
  have HF1 := Lib.hid (few_any v1 ys 4 w1 (H1.out.later hb1) (by omega) (by omega))
  have HB1 := Lib.hid hb1
  clear HF0 hs hb1
  go_wp2_with fail
  refine HF1.out.mono ?_
  rintro e w2 ⟨f, rfl, hf, hb2⟩
  have hfs := few_size3 _ _ _ hf
  have HB2 := Lib.hid (bstep HB1.out hb2)
  have HF2 := Lib.hid (few_any v2 zs 4 w2 (H2.out.later HB2.out) (by omega) (by omega))
  clear HF1 hf hb2 HB1
  have hm : IntKind.i64.max = 9223372036854775807 := by decide
  have e1 : (⟨#[97]⟩ : ByteArray).size = 1 := rfl
  have e2 : (⟨#[98]⟩ : ByteArray).size = 1 := rfl
  have hno : ¬ ((f.size + (⟨#[97]⟩ : ByteArray).size : Nat) : Int) > IntKind.i64.max := by omega
  go_wp2_with fail
  refine HF2.out.mono ?_
  rintro e w3 ⟨g, rfl, hg, hb3⟩
  have hgs := few_size3 _ _ _ hg
  have HB3 := Lib.hid (bstep HB2.out hb3)
  have hno2 : ¬ ((g.size + (⟨#[98]⟩ : ByteArray).size : Nat) : Int) > IntKind.i64.max := by omega
  clear HF2 hg hb3 HB2 hno
  go_wp2_with fail
  have hne := unlike f g
  have hf1 := plus_size f _ e1
  have hg1 := plus_size g _ e2
  generalize (f ++ ⟨#[97]⟩ : ByteArray) = F at *
  generalize (g ++ ⟨#[98]⟩ : ByteArray) = G at *
  have HNE := Lib.hid hne
  have hF : 0 < F.size ∧ F.size ≤ 5 := by omega
  have hG : 0 < G.size ∧ G.size ≤ 5 := by omega
  clear hm e1 e2 hno2 hne hf1 hg1 hfs hgs
  have HA := Lib.hid (all_any s F w3 (by omega) (by omega) hF.1)
  refine HA.out.mono ?_
  rintro e w4 ⟨vx, rfl, hx, hb4⟩
  have HX := Lib.hid hx
  have HB4 := Lib.hid (bstep HB3.out hb4)
  have HS := Lib.hid (sufFind_any s F (by omega) hF.1 (by omega) w4)
  clear HA hx hb4 HB3
  go_wp2_with fail
  refine HS.out.mono ?_
  rintro e w5 ⟨vy, rfl, hy, hb5⟩
  rw [occF_L, ← occ_occL s F hF.1] at hy
  have HY : Hid (Row .i64 w5 vy (natI (occ s F))) := Lib.hid (in_row s F w5 vy _ (by omega) hy)
  have HX5 := Lib.hid (HX.out.later hb5)
  have HB5 := Lib.hid (bstep HB4.out hb5)
  have hlit := SRow.lit w5 9 [F, G] (by unfold maxLen; simp)
  have HM := Lib.hid (many_any s _ [F, G] _ hlit (by simp) (fun x hx => by
    rcases List.mem_cons.1 hx with rfl | hx
    · exact ⟨hF.1, by omega⟩
    · rw [List.mem_singleton] at hx; subst hx; exact ⟨hG.1, by omega⟩) (by
    rw [List.nodup_cons]; exact ⟨by simpa using HNE.out, by simp⟩) (by omega))
  clear HS hy hb5 HB4 HX hlit
  go_wp2_with fail
  refine HM.out.mono ?_
  rintro e w6 ⟨vh, l, fd, rfl, hfds, hown6, hb6⟩
  have hb6' : Below w5.heap.size w5 w6 := bstep_alloc hb6
  have hlen := hitsAll_len l fd s.data.toList s.size
  have hpk : occ s F = picks (hitsAll l fd s.data.toList s.size) 0 := by
    have hl9 : F.data.toList.length = F.size := by simp
    rw [occ_occL s F hF.1]
    have h8 := hits_pick hfds s.data.toList 0 (by simp) (by show F.data.toList ≠ []; intro e; rw [e] at hl9; simp at hl9; omega)
    have h7 : ([F, G].map fun x => x.data.toList)[0]'(by simp) = F.data.toList := rfl
    rw [h7] at h8
    rw [← h8]
    unfold picks
    rw [show s.data.toList.length = s.size by simp]
  have hin : ∀ x ∈ hitsAll l fd s.data.toList s.size, x.a ≤ 600 := fun x hx => by
    have := (hits_in hfds s.data.toList s.size x hx).2
    omega
  have HPK := Lib.hid hpk
  have HIN := Lib.hid hin
  generalize hitsAll l fd s.data.toList s.size = hs at *
  have HC6 := CRow.of_own htc_len hown6
  have HY6 := Lib.hid (HY.out.later hb6')
  have HX6 := Lib.hid (HX5.out.later hb6')
  have HB6 := Lib.hid (bstep HB5.out hb6')
  have hh6 : hs.length ≤ 800 := by omega
  obtain ⟨Ah, ch, rfl, hch1, hch2, hrh⟩ := HC6
  unfold maxLen at hch2
  have HRH := Lib.hid hrh
  have HKZ := Lib.hid (kk_zero hs 0)
  clear hpk hin hfds hown6 hb6 hb6' HM HY HX5 HB5 hrh hlen HNE
  go_wp2_with fail
  go_loopw [16, 17] (fun vz vj W => ∃ j : Nat, j ≤ hs.length ∧ vj = .int .i64 (j : Int) ∧ W.ownsRow w6.heap.size 3 1 vz (picks (hs.take j) 0).length ((natI (picks (hs.take j) 0)).map (.int .i64)) ∧ Below w6.heap.size w6 W) (fun _ vj _ => hs.length - (intOf vj).toNat)
  case atStart => exact ⟨0, Nat.zero_le _, rfl, World.ownsRow_nil _ _ _ _, Below.refl _ _⟩
  case round =>
    obtain ⟨j, hj, rfl, ho, hbj⟩ := hrel
    have HO := Lib.hid ho
    have HBJ := Lib.hid hbj
    clear ho hbj
    rcases Nat.lt_or_ge j hs.length with hjl | hjg
    · obtain ⟨bh, oh, rfl, hbh, y1, y2⟩ := CRow.at2 (x := fun h : Ht => Value.int .i64 (h.a : Int)) (y := fun h : Ht => Value.int .i64 (h.f : Int)) (HRH.out.below HBJ.out) hjl
      have n1 : (0 : Int) ≤ (j : Int) := by omega
      have n2 : (j : Int) < (hs.length : Int) := by omega
      have HTK := Lib.hid (List.take_succ_eq_append_getElem hjl)
      have hpl : (picks (hs.take j) 0).length ≤ 800 := Nat.le_trans (picks_le _ _) (by rw [List.length_take]; omega)
      by_cases hf : hs[j].f = 0
      · rw [hf] at y2
        have HP : Hid (picks (hs.take (j + 1)) 0 = picks (hs.take j) 0 ++ [hs[j].a]) := Lib.hid (by
          rw [HTK.out, picks_app]
          have : picks [hs[j]] 0 = [hs[j].a] := by unfold picks; simp [hf]
          rw [this])
        clear hf
        generalize hs[j].a = av at *
        obtain ⟨Az, cz, rfl, hz1, hz2⟩ := own_slice HO.out
        go_wp2_with (at_builtin; go_loud (refine wpList_app1 rfl (.tmp 60) (.tmp 66) _ rfl w6.heap.size 3 _ 8 Try.underlying22 tint_info rfl _ _ _ rfl HO.out (.int .i64 (av : Int)) rfl rfl rfl (by omega) (by omega) HBJ.out.size ?_; intro v8 w8 ho8 hB8 hg8; have HO8 := Lib.hid ho8; have HB8 := Lib.hid (hB8 _ (Nat.le_refl _) _ HBJ.out); clear ho8 hB8 hg8))
        refine ⟨⟨j + 1, hjl, by go_num, ?_, HB8.out⟩, by simp [intOf]; omega⟩
        rw [HP.out, List.length_append, List.length_singleton]
        unfold natI
        rw [List.map_append, List.map_append]
        exact HO8.out
      · have HP : Hid (picks (hs.take (j + 1)) 0 = picks (hs.take j) 0) := Lib.hid (by
          rw [HTK.out, picks_app]
          have : picks [hs[j]] 0 = [] := by unfold picks; simp [hf]
          rw [this, List.append_nil])
        have n8 : ((hs[j].f : Int) == (0 : Int)) = false := by rw [beq_eq_false_iff_ne]; omega
        clear hf y1
        generalize hs[j].f = fv at *
        go_wp2_with fail
        exact ⟨⟨j + 1, hjl, by go_num, by rw [HP.out]; exact HO.out, HBJ.out⟩, by simp [intOf]; omega⟩
    · have n1 : decide ((j : Int) < (hs.length : Int)) = false := decide_eq_false (by omega)
      obtain rfl : j = hs.length := by omega
      have hoz := HO.out
      rw [List.take_of_length_le (Nat.le_refl _), ← HPK.out] at hoz
      have HZ : Hid (Row .i64 wr u16 (natI (occ s F))) := Lib.hid (in_row s F wr u16 _ (by omega) hoz)
      have HY7 := Lib.hid (HY6.out.later HBJ.out)
      have HX7 := Lib.hid (HX6.out.later HBJ.out)
      have HB7 := Lib.hid (bstep HB6.out HBJ.out)
      have HA := Lib.hid (all_any ⟨#[97, 97]⟩ ⟨#[97]⟩ wr (by decide) (by decide) (by decide))
      clear hoz HO HBJ HB6 HY6 HX6 HRH HKZ HPK HIN
      go_wp2_with fail
      refine HA.out.mono ?_
      rintro e w9 ⟨v9, rfl, h9, hb9⟩
      rw [occ_two] at h9
      obtain ⟨A9, c9, rfl, h91, h92, _, _⟩ := h9
      have HZ9 := Lib.hid (HZ.out.later hb9)
      have HY9 := Lib.hid (HY7.out.later hb9)
      have HX9 := Lib.hid (HX7.out.later hb9)
      have HB9 := Lib.hid (bstep HB7.out hb9)
      have hl2 : (natI [0, 1]).length = 2 := rfl
      rw [hl2] at h91 ⊢
      have S1 := Lib.hid (sameTop_any vx vy _ _ w9 HX9.out HY9.out)
      have S2 := Lib.hid (fun W (hW : Below w9.heap.size w9 W) => sameTop_any vx u16 _ _ W (HX9.out.later hW) (HZ9.out.later hW))
      rw [decide_eq_true rfl] at S1
      have S2' : Hid (∀ W, Below w9.heap.size w9 W → Calls Try.prog 10 #[vx, u16] W fun e w' => e = .returned (.bool true) ∧ Below W.heap.size W w') := Lib.hid (fun W hW => by have := S2.out W hW; rwa [decide_eq_true rfl] at this)
      clear hb9 HA HZ HY7 HX7 HB7 hl2 HZ9 HY9 HX9 S2
      go_wp2_with fail
      refine S1.out.mono ?_
      rintro e w10 ⟨rfl, hb10⟩
      have HS2 := Lib.hid (S2'.out w10 hb10)
      have HB10 := Lib.hid (bstep HB9.out hb10)
      clear hb10 S1 S2' HB9
      go_wp2_with fail
      refine HS2.out.mono ?_
      rintro e w11 ⟨rfl, hb11⟩
      have HB11 := Lib.hid (bstep HB10.out hb11)
      clear hb11 HB10 HS2
      go_wp2_with fail
      go_ret
      exact ⟨rfl, HB11.out⟩
end Go.Proofs.Ytacjckocjngfoaa
