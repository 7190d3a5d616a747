/-
  The walk of BorderPeriod: at every input it returns true, and nothing that was there is changed.
-/
import Derived.Test.YtifjahfolmhhpaaFindB
namespace Go.Proofs.Ytifjahfolmhhpaa
open Go.RowKit Fnd
set_option linter.unusedVariables false

theorem ext_get (s : ByteArray) (a b j : Nat) (h : j < b - a) (hb : b ≤ s.size) : (s.extract a b).data.toList[j]? = some (bf s (a + j)) := by
  have hl : s.data.toList.length = s.size := by simp
  rw [show (s.extract a b).data.toList = (s.data.toList.drop a).take (b - a) by simp only [ByteArray.data_extract, Array.toList_extract, List.extract]]
  rw [List.getElem?_take, if_pos h, List.getElem?_drop]
  unfold bf
  rw [List.getD_eq_getElem?_getD, List.getElem?_eq_getElem (by omega)]; rfl
theorem ext_len (s : ByteArray) (a b : Nat) (hb : b ≤ s.size) : (s.extract a b).data.toList.length = b - a := by
  have hl : s.data.toList.length = s.size := by simp
  rw [show (s.extract a b).data.toList = (s.data.toList.drop a).take (b - a) by simp only [ByteArray.data_extract, Array.toList_extract, List.extract]]
  rw [List.length_take, List.length_drop, hl]; omega
theorem ext_eq (s : ByteArray) (n m : Nat) (hn : n = s.size) (hm : m < n) : s.extract 0 m = s.extract (n - m) n ↔ Bd (bf s) n m := by
  constructor
  · intro h
    refine ⟨hm, fun j hj => ?_⟩
    have h1 := ext_get s 0 m j (by omega) (by omega)
    have h2 := ext_get s (n - m) n j (by omega) (by omega)
    rw [h, h2, Nat.zero_add] at h1
    exact (Option.some.inj h1).symm
  · rintro ⟨_, h⟩
    apply bytes_ext
    apply List.ext_getElem?
    intro j
    by_cases hj : j < m
    · rw [ext_get s 0 m j (by omega) (by omega), ext_get s (n - m) n j (by omega) (by omega), Nat.zero_add, h j hj]
    · rw [List.getElem?_eq_none (by rw [ext_len s 0 m (by omega)]; omega), List.getElem?_eq_none (by rw [ext_len s (n - m) n (by omega)]; omega)]

set_option maxRecDepth 100000 in
set_option maxHeartbeats 4000000 in
theorem borderPeriod_walk (w : World) (v0 : Value) (l : List Int) (h0 : Row .i64 w v0 l) :
    Calls Try.prog 8 #[v0] w fun e w' => e = .returned (.bool true) ∧ Below w.heap.size w w' := by
  go_enter Try.func8, Try.ntmps8
  go_wp2_with fail
  refine (few_any v0 l 60 _ h0 (by omega) (by omega)).mono ?_
  rintro e w1 ⟨s0, rfl, hs0, k1⟩
  have hsz0 : s0.size ≤ 60 := by
    have : s0.data.toList.length ≤ 60 := by rw [hs0]; simp; omega
    simpa using this
  have hsz : (s0 ++ ⟨#[97]⟩).size = s0.size + 1 := by rw [ByteArray.size_append]; rfl
  clear hs0 h0
  go_wp2_with fail
  generalize hS : s0 ++ ⟨#[97]⟩ = s at *
  have hs1 : 0 < s.size := by omega
  have hs2 : s.size ≤ 61 := by omega
  clear hS hsz hsz0
  refine (Border_any s _ hs1 (by omega)).mono ?_
  rintro e w2 ⟨v2, bs, rfl, hrow, hbl, hbs, hb2⟩
  have k2 := bstep k1 hb2
  clear k1 hb2
  have hmx := hbs (s.size - 1) (by omega)
  rw [show s.size - 1 + 1 = s.size by omega] at hmx
  obtain ⟨A, c, rfl, hlA, hcA, _, hrd⟩ := id hrow
  have hnl : (natI bs).length = s.size := by simp [natI, hbl]
  obtain ⟨b, o, rfl, hb, hcell⟩ := hrd.plain (by omega) (by omega)
  have HC := Lib.hid (show ∀ j, j < s.size → w2.cell? ⟨b, o + j, none⟩ = some (.int .i64 (bs.getD j 0 : Int)) from fun j hj => hcell j _ (by
    rw [List.getElem?_map, natI, List.getElem?_map, List.getElem?_eq_getElem (by omega)]
    simp [List.getD, show j < bs.length by omega]))
  rw [hnl] at hlA ⊢
  have hcl := HC.out (s.size - 1) (by omega)
  have HK := Lib.hid (show ∀ k, bs.getD (s.size - 1) 0 = k → 0 < k → Mx (bf s) k (bs.getD (k - 1) 0) ∧ k ≤ s.size from fun k hk hk0 => by
    have hle := hmx.1.1
    rw [hk] at hle
    have := hbs (k - 1) (by omega)
    rw [show k - 1 + 1 = k by omega] at this
    exact ⟨this, by omega⟩)
  generalize hkk : bs.getD (s.size - 1) 0 = k at *
  have HMX := Lib.hid hmx
  have hkn : k < s.size := hmx.1.1
  have HFS := Lib.hid findSure_any
  have hdn : decide (s.size ≤ k) = false := by simp; omega
  have hb1 : ((s.size : Int) != (s.size : Int)) = false := by simp
  have hi3 : (0 : Int) ≤ (s.size : Int) - 1 := by omega
  have hi4 : (s.size : Int) - 1 < (s.size : Int) := by omega
  have hi5 : ((s.size : Int) - 1).toNat = s.size - 1 := by omega
  unfold maxLen at hcA
  clear hrd hcell hbs hrow hnl hbl hmx hkk
  go_wp2_with fail
  refine (HFS.out _).mono ?_
  rintro e w3 ⟨rfl, hb3⟩
  have k3 := bstep k2 hb3
  have hcl3 := (hb3.cell (p := ⟨b, o + (s.size - 1), none⟩) hb).trans hcl
  have HC3 := Lib.hid (fun j hj => (hb3.cell (p := ⟨b, o + j, none⟩) hb).trans (HC.out j hj))
  clear k2 hb3 hcl HC HFS
  go_wp2_with fail
  go_loopw [8] (fun i wr => ∃ i' q : Nat, s.size - k ≤ i' ∧ i' ≤ s.size ∧ i = .int .i64 i' ∧ wr = w3.drewN q) (fun i _ => s.size - (intOf i).toNat)
  case atStart => exact ⟨s.size - k, 0, by omega, by omega, by go_num, rfl⟩
  case round =>
    obtain ⟨i, q, hi1, hi2, rfl, rfl⟩ := hrel
    by_cases hlt : i < s.size
    · have hi0 : (0 : Int) ≤ (i : Int) := by omega
      have hilt : (i : Int) < (s.size : Int) := by omega
      have hsum : (i : Int) - ((s.size : Int) - (k : Int)) = ((i - (s.size - k) : Nat) : Int) := by omega
      have hlt2 : i - (s.size - k) < s.size := by omega
      have b1 := bf_at s i hlt
      have b2 := bf_at s (i - (s.size - k)) hlt2
      have he := byte_eq2 (show s[i] = s[i - (s.size - k)] by
        rw [← b1, ← b2]
        have := HMX.out.1.2 (i - (s.size - k)) (by omega)
        rw [this]; congr 1; omega)
      clear b1 b2
      go_wp2_with fail
      go_quiet (fail)
      go_wp2_with fail
      go_roundw
      case rel => exact ⟨i + 1, q + nq, by omega, by omega, by go_num, rfl⟩
      case measure => simp [intOf]; omega
    · obtain rfl : i = s.size := by omega
      go_wp2_with fail
      go_loopw [9] (fun i wr => ∃ i' q' : Nat, k < i' ∧ i' ≤ s.size ∧ i = .int .i64 i' ∧ wr = w3.drewN q') (fun i _ => s.size - (intOf i).toNat)
      case atStart => exact ⟨k + 1, q, by omega, by omega, by go_num, rfl⟩
      case round =>
        obtain ⟨i, q2, hi1, hi2, rfl, rfl⟩ := hrel
        by_cases hlt : i < s.size
        · have hi0 : (0 : Int) ≤ (i : Int) := by omega
          have hilt : (i : Int) ≤ (s.size : Int) := by omega
          have hj0 : (0 : Int) ≤ (s.size : Int) - (i : Int) := by omega
          have hjlt : (s.size : Int) - (i : Int) ≤ (s.size : Int) := by omega
          have hjn : ((s.size : Int) - (i : Int)).toNat = s.size - i := by omega
          have he := bytes_ne (fun h => by
            have := HMX.out.2 i ((ext_eq s s.size i rfl hlt).1 h)
            omega)
          go_wp2_with fail
          go_quiet (fail)
          go_wp2_with fail
          go_roundw
          case rel => exact ⟨i + 1, q2 + nq, by omega, by omega, by go_num, by simp⟩
          case measure => simp [intOf]; omega
        · obtain rfl : i = s.size := by omega
          by_cases hk0 : k = 0
          · have he := (show ((k : Int) == 0) = true by rw [beq_iff_eq]; omega)
            clear hk0
            go_wp2_with fail
            go_quiet (fail)
            go_wp2_with fail
            go_ret
            exact ⟨rfl, below_drewN (below_drewN k3 _) _⟩
          · have he := (show ((k : Int) == 0) = false by rw [beq_eq_false_iff_ne]; omega)
            obtain ⟨hm, _⟩ := HK.out k rfl (by omega)
            have hc4 := HC3.out (k - 1) (by omega)
            have hbd := (bd_in (bf s) s.size k _ HMX.out.1 hm.1.1).2 hm.1
            generalize bs.getD (k - 1) 0 = m at *
            have hmk : m < k := hm.1.1
            have hq := bytes_eq ((ext_eq s s.size m rfl (by omega)).2 hbd)
            have hk1 : (0 : Int) ≤ (k : Int) - 1 := by omega
            have hk2 : (k : Int) - 1 < (s.size : Int) := by omega
            have hk3 : ((k : Int) - 1).toNat = k - 1 := by omega
            have hm0 : (0 : Int) ≤ (m : Int) := by omega
            have hm1 : (m : Int) ≤ (s.size : Int) := by omega
            have hm2 : (0 : Int) ≤ (s.size : Int) - (m : Int) := by omega
            have hm3 : (s.size : Int) - (m : Int) ≤ (s.size : Int) := by omega
            have hm4 : ((s.size : Int) - (m : Int)).toNat = s.size - m := by omega
            have hm5 : decide ((m : Int) < (k : Int)) = true := by simp; omega
            have hm6 : decide (m < k) = true := by simp; omega
            clear hk0 hm hbd
            go_wp2_with fail
            go_quiet (fail)
            go_wp2_with fail
            go_ret
            exact ⟨rfl, below_drewN (below_drewN k3 _) _⟩
end Go.Proofs.Ytifjahfolmhhpaa
