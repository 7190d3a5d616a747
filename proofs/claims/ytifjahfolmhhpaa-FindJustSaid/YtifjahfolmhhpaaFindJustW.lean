/-
  The walk of FindJust: at every input it returns true, and nothing that was there is changed.
-/
import Derived.Test.YtifjahfolmhhpaaFindC
namespace Go.Proofs.Ytifjahfolmhhpaa
open Go.RowKit Fnd
set_option linter.unusedVariables false

theorem ext_all (s : ByteArray) : s = s.extract 0 s.size := by simp
theorem to_str {a b : ByteArray} {f : Value} {w : World} {Q : Ending → World → Prop} (h : a = b) (hc : Calls Try.prog 24 #[.string b, f] w Q) : Calls Try.prog 24 #[.string a, f] w Q := by subst h; exact hc
theorem natI_len (xs : List Nat) : (natI xs).length = xs.length := by simp [natI]
theorem natI_get (xs : List Nat) (k : Nat) : (natI xs).getD k 0 = ((xs.getD k 0 : Nat) : Int) := by
  simp only [natI, List.getD_eq_getElem?_getD, List.getElem?_map]
  cases xs[k]? <;> rfl
set_option maxRecDepth 100000 in
set_option maxHeartbeats 4000000 in
theorem findJust_walk (w : World) (v0 : Value) (l : List Int) (h0 : Row .i64 w v0 l) (v1 : Value) (m : List Int) (h1 : Row .i64 w v1 m) (cut : Int) (hcut : -9223372036854775808 ≤ cut ∧ cut ≤ 9223372036854775807) :
    Calls Try.prog 7 #[v0, v1, .int .i64 cut] w fun e w' => e = .returned (.bool true) ∧ Below w.heap.size w w' := by
  have HH1 := Lib.hid h1
  clear h1
  go_enter Try.func7, Try.ntmps7
  go_wp2_with fail
  refine (few_any v0 l 80 _ h0 (by omega) (by omega)).mono ?_
  rintro e w1 ⟨s, rfl, hs0, k1⟩
  have hs2 : s.size ≤ 80 := by
    have : s.data.toList.length ≤ 80 := by rw [hs0]; simp; omega
    simpa using this
  clear hs0 h0
  go_wp2_with fail
  refine (few_any v1 m 5 _ (HH1.out.later k1) (by omega) (by omega)).mono ?_
  rintro e w2 ⟨f0, rfl, hf0, hb2⟩
  have k2 := bstep k1 hb2
  have hfz0 : f0.size ≤ 5 := by
    have : f0.data.toList.length ≤ 5 := by rw [hf0]; simp; omega
    simpa using this
  have hfz : (f0 ++ ⟨#[97]⟩).size = f0.size + 1 := by rw [ByteArray.size_append]; rfl
  clear hf0 HH1 k1 hb2
  go_wp2_with fail
  generalize hS : f0 ++ ⟨#[97]⟩ = f at *
  have hf1 : 0 < f.size := by omega
  have hf2 : f.size ≤ 6 := by omega
  clear hS hfz hfz0
  refine (all_any s f _ (by omega) (by omega) hf1).mono ?_
  rintro e w3 ⟨v3, rfl, hrow, hb3⟩
  have k3 := bstep k2 hb3
  clear k2 hb3
  have HOC := Lib.hid (occ_len s f hf1)
  have HOE := Lib.hid (show occ s f = (List.range (s.size + 1 - f.size)).filter (mt (bf s) (bf f) f.size) from oc_filter _ _ _ hf1 _)
  have HPT := Lib.hid (occ_parts s f)
  have hLX : (occ s f).length ≤ 80 := by
    rw [HOC.out]; exact Nat.le_trans (cn_le _ _) (by omega)
  have HFS := Lib.hid findSure_any
  go_wp2_with fail
  refine (HFS.out _).mono ?_
  rintro e w4 ⟨rfl, hb4⟩
  have k4 := bstep k3 hb4
  have hrow := hrow.later hb4
  obtain ⟨A, c, rfl, hlA, hcA, _, hrd⟩ := hrow
  unfold maxLen at hcA
  have hnl : (natI (occ s f)).length = (occ s f).length := by simp [natI]
  rw [hnl] at hlA ⊢
  have HRD := Lib.hid hrd
  clear hrd hnl k3 hb4 HFS
  go_wp2_with fail
  have HCN := Lib.hid (cn_le (mt (bf s) (bf f) f.size))
  have HFA := Lib.hid (filter_at (mt (bf s) (bf f) f.size))
  have HSU := Lib.hid (cn_succ (mt (bf s) (bf f) f.size))
  have HEM := Lib.hid (ext_mt s f)
  go_loopw [11, 12, 13] (fun k i _ wr => ∃ i' k' q : Nat, i' ≤ s.size + 1 - f.size ∧ k' ≤ i' ∧ i = .int .i64 i' ∧ k = .int .i64 k' ∧ Hid (k' = cn (mt (bf s) (bf f) f.size) i') ∧ wr = w4.drewN q) (fun _ i _ _ => s.size + 1 - (intOf i).toNat)
  case atStart => exact ⟨0, 0, 0, by omega, by omega, rfl, rfl, Lib.hid rfl, rfl⟩
  case round =>
    obtain ⟨i, k, q, hi1, hki, rfl, rfl, HK, rfl⟩ := hrel
    by_cases hlt : i + f.size ≤ s.size
    · have hi0 : (0 : Int) ≤ (i : Int) := by omega
      have hi2 : (i : Int) + (f.size : Int) ≤ (s.size : Int) := by omega
      have hi3 : (i : Int) ≤ (i : Int) + (f.size : Int) := by omega
      have hi4 : ((i : Int) + (f.size : Int)).toNat = i + f.size := by omega
      have hi5 : (0 : Int) ≤ (i : Int) + (f.size : Int) := by omega
      have hd : decide ((i : Int) + (f.size : Int) ≤ (s.size : Int)) = true := by simp; omega
      have hfa := HFA.out (s.size + 1 - f.size) i (by omega)
      rw [← HOE.out, ← HK.out] at hfa
      have hsu := HSU.out i
      by_cases hm : mt (bf s) (bf f) f.size i = true
      · have he := bytes_eq ((HEM.out i hlt).2 hm)
        obtain ⟨hkl, hkv⟩ := hfa.1 hm
        have HK2 := Lib.hid (show k + 1 = cn (mt (bf s) (bf f) f.size) (i + 1) by rw [hsu, ← HK.out, if_pos hm])
        obtain ⟨b1, o1, rfl, _, x1⟩ := Row.at_ HRD.out (i := k) (by rw [natI_len]; exact hkl)
        rw [natI_get, hkv] at x1
        have hkl0 : (0 : Int) ≤ (k : Int) := by omega
        have hkl1 : (k : Int) < ((occ s f).length : Int) := by omega
        have hkl2 : decide ((k : Int) < ((occ s f).length : Int)) = true := by simp; omega
        clear hfa hsu hm hkv
        go_wp2_with fail
        go_roundw
        case rel => exact ⟨i + 1, k + 1, q, by omega, by omega, by go_num, by go_num, HK2, rfl⟩
        case measure => simp [intOf]; omega
      · have hmf : mt (bf s) (bf f) f.size i = false := by simpa using hm
        have he := bytes_ne (fun h => hm ((HEM.out i hlt).1 h))
        have HK2 := Lib.hid (show k = cn (mt (bf s) (bf f) f.size) (i + 1) by rw [hsu, ← HK.out, if_neg hm]; rfl)
        have HFB := Lib.hid (hfa.2 hmf)
        clear hfa hsu hm hmf
        by_cases hkl : k < (occ s f).length
        · obtain ⟨b1, o1, rfl, _, x1⟩ := Row.at_ HRD.out (i := k) (by rw [natI_len]; exact hkl)
          have hne := HFB.out hkl
          rw [natI_get] at x1
          generalize (occ s f).getD k 0 = y at *
          have hyb : ((y : Int) == (i : Int)) = false := by rw [beq_eq_false_iff_ne]; omega
          have hkl0 : (0 : Int) ≤ (k : Int) := by omega
          have hkl1 : (k : Int) < ((occ s f).length : Int) := by omega
          have hkl2 : decide ((k : Int) < ((occ s f).length : Int)) = true := by simp; omega
          clear hne
          go_wp2_with fail
          go_roundw
          case rel => exact ⟨i + 1, k, q, by omega, by omega, by go_num, by go_num, HK2, rfl⟩
          case measure => simp [intOf]; omega
        · have hkl2 : decide (k < (occ s f).length) = false := by simp; omega
          clear hkl
          go_wp2_with fail
          go_roundw
          case rel => exact ⟨i + 1, k, q, by omega, by omega, by go_num, by go_num, HK2, rfl⟩
          case measure => simp [intOf]; omega
    · have hd : decide ((i : Int) + (f.size : Int) ≤ (s.size : Int)) = false := by simp; omega
      have hkX : k = (occ s f).length := by
        rw [HOC.out, HK.out]; congr 1; omega
      subst hkX
      clear hlt
      go_wp2_with fail
      have hq0 : 0 ≤ cut % ((s.size : Int) + 1) := Int.emod_nonneg _ (by omega)
      have hq1 : cut % ((s.size : Int) + 1) < (s.size : Int) + 1 := Int.emod_lt_of_pos _ (by omega)
      refine (picked_any cut _ _ hcut (by omega) (by omega)).mono ?_
      rintro e w5 ⟨rfl, rfl⟩
      obtain ⟨p, hp⟩ : ∃ p : Nat, cut % ((s.size : Int) + 1) = (p : Int) := ⟨_, (Int.toNat_of_nonneg hq0).symm⟩
      rw [hp] at hq1 ⊢
      have hps : p ≤ s.size := by omega
      have HPX := Lib.hid (HPT.out p hf1 hps)
      have hp0 : (0 : Int) ≤ (p : Int) := by omega
      have hp1 : (p : Int) ≤ (s.size : Int) := by omega
      have HAll := Lib.hid all_any
      clear hp hq0 hq1 HPT hi1 hki HK
      go_wp2_with fail
      refine (HAll.out (s.extract 0 p) f _ (by rw [ext_size s 0 p hps]; omega) (by omega) hf1).mono ?_
      rintro e w6 ⟨v6, rfl, hrow6, hb6⟩
      obtain ⟨A6, c6, rfl, hlA6, hcA6, _, _⟩ := hrow6
      unfold maxLen at hcA6
      rw [natI_len] at hlA6 ⊢
      have HW := Lib.hid (bstep (below_drewN k4 q) hb6)
      clear hb6
      go_wp2_with fail
      refine (HAll.out (s.extract p s.size) f _ (by rw [ext_size s p _ (by omega)]; omega) (by omega) hf1).mono ?_
      rintro e w7 ⟨v7, rfl, hrow7, hb7⟩
      obtain ⟨A7, c7, rfl, hlA7, hcA7, _, _⟩ := hrow7
      unfold maxLen at hcA7
      rw [natI_len] at hlA7 ⊢
      have HW := Lib.hid (bstep HW.out hb7)
      clear hb7
      go_wp2_with fail
      all_goals
        refine (to_str (b := s.extract (p + 1 - f.size) (min s.size (p + f.size - 1))) (by first | (congr 1 <;> omega) | exact (ext_all s).trans (by congr 1 <;> omega)) (HAll.out (s.extract (p + 1 - f.size) (min s.size (p + f.size - 1))) f _ (by rw [ext_size s _ _ (by omega)]; omega) (by omega) hf1)).mono ?_
        rintro e w8 ⟨v8, rfl, hrow8, hb8⟩
        obtain ⟨A8, c8, rfl, hlA8, hcA8, _, _⟩ := hrow8
        unfold maxLen at hcA8
        rw [natI_len] at hlA8 ⊢
        have HW := Lib.hid (bstep HW.out hb8)
        have hsum := HPX.out
        generalize (occ (s.extract (p + 1 - f.size) (min s.size (p + f.size - 1))) f).length = L3 at *
        generalize (occ (s.extract p s.size) f).length = L2 at *
        generalize (occ (s.extract 0 p) f).length = L1 at *
        have hb3 : (((L1 : Int) + (L2 : Int) + (L3 : Int)) == ((occ s f).length : Int)) = true := by rw [beq_iff_eq]; omega
        have hl1 : L1 ≤ 80 := by omega
        have hl2 : L2 ≤ 80 := by omega
        have hl3 : L3 ≤ 80 := by omega
        clear hb8 hsum
        go_wp2_with fail
        go_ret
        exact ⟨rfl, HW.out⟩
end Go.Proofs.Ytifjahfolmhhpaa
