/-
  The walk of the law WordsParts: whatever the slices, it returns true and changes nothing that was there.
-/
import Derived.Test.YtpgjjnbepkofdaaWrdL
import Derived.Test.YtpgjjnbepkofdaaWrdQ
import Derived.Test.YtpgjjnbepkofdaaText
import Derived.BigQuiet
import Derived.Deep.QuietTactic
namespace Go.Proofs.Ytpgjjnbepkofdaa
open Go.RowKit
set_option linter.unusedVariables false
set_option linter.unusedSimpArgs false

theorem one_word {l : List WV} (h : WdsOk (fun s => placesOf (wordsOf ⟨#[97]⟩) s.data.toList) (l.map WV.k)) : l.length = 1 := by
  have h2 : WdsOk (fun s => placesOf (wordsOf ⟨#[97]⟩) s.data.toList) [[97]] := ⟨by simp, fun x => by
    have e : wordsOf ⟨#[97]⟩ = [([97], 0)] := by decide
    show _ ↔ _ ∧ placesOf (wordsOf ⟨#[97]⟩) x ≠ []
    rw [e, placesOf_one, List.mem_singleton]
    constructor
    · rintro rfl
      exact ⟨by decide, by simp⟩
    · rintro ⟨_, h⟩
      by_cases hx : [97] = x
      · exact hx.symm
      · rw [if_neg hx] at h
        exact absurd rfl h⟩
  have := congrArg List.length (h.unique h2)
  simpa using this
theorem less_eq : ∀ (x y : List UInt8), Op.bytesLess x y = decide (x < y)
  | [], [] => by simp [Op.bytesLess]
  | _ :: _, [] => by simp [Op.bytesLess]
  | [], _ :: _ => by simp [Op.bytesLess]
  | a :: x, b :: y => by
    rw [Op.bytesLess, less_eq x y]
    simp only [List.cons_lt_cons_iff]
    by_cases h1 : a < b <;> by_cases h2 : a = b <;> by_cases h3 : x < y <;> simp [h1, h2, h3]
theorem less_of {a b : List UInt8} (h : a ≤ b) (hne : a ≠ b) : Op.bytesLess a b = true := by
  rw [less_eq]
  refine decide_eq_true ?_
  rcases Decidable.em (a < b) with h1 | h1
  · exact h1
  · exact absurd (List.le_antisymm h (List.not_lt.1 h1)) hne
set_option maxRecDepth 100000 in
set_option maxHeartbeats 8000000 in
theorem wordsParts_walk (w : World) (v0 : Value) (a : List Int) (h0 : Row .i64 w v0 a) (v1 : Value) (b : List Int) (h1 : Row .i64 w v1 b) :
    Calls Try.prog 7 #[v0, v1] w fun e w' => e = .returned (.bool true) ∧ Below w.heap.size w w' := by
  go_enter Try.func7, Try.ntmps7
  go_wp2_with fail
  refine (textOf_any v0 a 60 _ h0 (by omega) (by omega)).mono ?_
  rintro e w' ⟨s, rfl, hs, rfl⟩
  go_wp2_with fail
  refine (textOf_any v1 b 60 _ h1 (by omega) (by omega)).mono ?_
  rintro e w' ⟨t, rfl, ht, rfl⟩
  have hs1 : s.size ≤ 60 := by
    have : s.data.toList.length = s.size := by simp
    rw [hs, List.length_map, List.length_take] at this
    omega
  have ht1 : t.size ≤ 60 := by
    have : t.data.toList.length = t.size := by simp
    rw [ht, List.length_map, List.length_take] at this
    omega
  have ux : ((s ++ ⟨#[32]⟩) ++ t : ByteArray).data.toList = s.data.toList ++ 32 :: t.data.toList := by simp [ByteArray.data_append, Array.toList_append]
  have uz : ((s ++ ⟨#[32]⟩) ++ t : ByteArray).size = s.size + 1 + t.size := by rw [ByteArray.size_append, ByteArray.size_append]; rfl
  have UX := Lib.hid ux
  have UZ := Lib.hid uz
  clear hs ht h0 h1 ux uz
  go_wp2_with fail
  generalize ((s ++ ⟨#[32]⟩) ++ t : ByteArray) = u at *
  refine (words_all u _ (by have := UZ.out; omega)).mono ?_
  rintro e w1 ⟨v, l, rfl, ho, hr, hok, hat, hll, hb1⟩
  have HO := Lib.hid ho
  have HR := Lib.hid hr
  have HOK := Lib.hid hok
  have HAT := Lib.hid hat
  have HB := Lib.hid hb1
  obtain ⟨A, c, rfl, hc1, hc2⟩ := own_slice ho
  clear ho hr hok hat hb1
  go_wp2_with fail
  refine (words_all ⟨#[97]⟩ w1 (by decide)).mono ?_
  rintro e w2 ⟨v2, l2, rfl, ho2, hr2, hok2, _, _, hb2⟩
  have hone := one_word hok2
  obtain ⟨A2, c2, rfl, hc21, hc22⟩ := own_slice ho2
  rw [hone]
  have HO2 := Lib.hid (own_below HO.out hb2)
  have HR2 := Lib.hid (fun x hx => (HR.out x hx).kept (grown_of_below hb2 none) (by cases x.v.ownBlock <;> simp))
  have HB2 := Lib.hid (HB.out.trans (hb2.mono HB.out.size))
  clear ho2 hr2 hok2 hb2 hone HO HR HB hc21
  go_wp2_with fail
  obtain ⟨_, _, e9, _, _, hrd⟩ := CRow.of_own wvc_len HO2.out
  injection e9 with e91 e92 e93
  subst e91; subst e93
  have HRD := Lib.hid hrd
  clear hrd HO2
  go_loopw [12] (fun vi W => ∃ i : Nat, i ≤ l.length ∧ vi = .int .i64 (i : Int) ∧ Below w2.heap.size w2 W) (fun vi _ => l.length - (intOf vi).toNat)
  case atStart => exact ⟨0, Nat.zero_le _, rfl, Below.refl _ _⟩
  case round =>
    obtain ⟨i, hi, rfl, hb⟩ := hrel
    have HBR := Lib.hid hb
    clear hb
    rcases Nat.lt_or_ge i l.length with hlt | hge
    · have k0 : (i : Int) < (l.length : Int) := by omega
      obtain ⟨bo, oo, rfl, hcell0, hcell1⟩ : ∃ bo oo, A = some ⟨bo, oo, none⟩ ∧ wr.cell? ⟨bo, oo + i * 2, none⟩ = some (.string ⟨l[i].k.toArray⟩) ∧ wr.cell? ⟨bo, oo + i * 2 + 1, none⟩ = some l[i].v := by
        obtain ⟨bo, oo, e1, _, e2, e3⟩ := CRow.at2 (x := fun x : WV => Value.string ⟨x.k.toArray⟩) (y := fun x : WV => x.v) (HRD.out.below HBR.out) hlt
        exact ⟨bo, oo, e1, e2, e3⟩
      have hmem := List.getElem_mem hlt
      have hx1 := HR2.out _ hmem
      have hx2 := HAT.out _ hmem
      have hx3 := (HOK.out.mem l[i].k).1 (List.mem_map_of_mem hmem)
      obtain ⟨x, hx⟩ : ∃ x, l[i] = x := ⟨_, rfl⟩
      rw [hx] at hcell0 hcell1 hx1 hx2 hx3
      obtain ⟨Ax, cx, ev, hcx1, hcx2⟩ := own_slice hx1.1
      rw [ev] at hcell1 hx1
      have HX := Lib.hid hx
      have HX1 := Lib.hid hx1
      have HX2 := Lib.hid hx2
      obtain ⟨hx31, hx32⟩ := hx3
      obtain ⟨z0, hz0⟩ := List.exists_mem_of_ne_nil _ hx32
      obtain ⟨p0, _, _, _, hkne, hkl, hkp⟩ := place_ok _ _ _ hz0
      have HKP := Lib.hid hkp
      have F1 := Lib.hid (fun W => find_any s ⟨x.k.toArray⟩ W (by omega) hkne (by simpa [ByteArray.size] using hkl) hkp)
      have F2 := Lib.hid (fun W => find_any t ⟨x.k.toArray⟩ W (by omega) hkne (by simpa [ByteArray.size] using hkl) hkp)
      clear hx hmem hx1 hx2 hz0 hkp ev
      have BX := Blk.new wr 42 #[.string ⟨x.k.toArray⟩, .slice Ax x.at_.length cx]
      have BEX : Below w2.heap.size w2 (wr.alloc (.cells #[.string ⟨x.k.toArray⟩, .slice Ax x.at_.length cx] 42)) := HBR.out.alloc HBR.out.size _
      have hxl : x.at_ = placesOf (wordsOf s) x.k ++ (placesOf (wordsOf t) x.k).map (fun z => z + ((s.size + 1 : Nat) : Int)) := by
        rw [HX2.out]
        unfold wordsOf
        rw [UX.out, words_two]
        simp
      obtain ⟨X, hX⟩ : ∃ X, placesOf (wordsOf s) x.k = X := ⟨_, rfl⟩
      obtain ⟨Y, hY⟩ : ∃ Y, placesOf (wordsOf t) x.k = Y := ⟨_, rfl⟩
      rw [hX, hY] at hxl
      have HXL := Lib.hid hxl
      have hna : x.at_.length = X.length + Y.length := by rw [hxl, List.length_append, List.length_map]
      have hnz : 0 < x.at_.length := List.length_pos_iff.2 (by rw [HX2.out]; exact hx32)
      have HNA := Lib.hid hna
      clear hxl hna hx31 hx32
      have hwl := BX.lt
      go_wp2_with fail
      refine (F1.out _).mono ?_
      rintro e w3 ⟨v5, rfl, r5, hb5⟩
      have r5' : Row .i64 w3 v5 X := by rw [← hX]; exact r5
      have BX3 := BX.below hb5 hwl
      have BE3 := BEX.trans (hb5.mono BEX.size)
      have c30 := BX3.cell 0
      have hw3 := BX3.lt
      clear BX BEX hb5 r5 hwl
      go_wp2_with fail
      refine (F2.out _).mono ?_
      rintro e w4 ⟨v6, rfl, r6, hb6⟩
      have R6 : Row .i64 w4 v6 Y := by rw [← hY]; exact r6
      have R5 := r5'.later hb6
      have BX4 := BX3.below hb6 hw3
      have BE4 := Lib.hid (BE3.trans (hb6.mono BE3.size))
      have d0 := BX4.cell 0
      have d1 := BX4.cell 1
      have HBX4 := Lib.hid BX4
      obtain ⟨A5, c5, rfl, hc51, hc52, hwf5, hrd5⟩ := R5
      obtain ⟨A6, c6, rfl, hc61, hc62, hwf6, hrd6⟩ := R6
      have HR5 := Lib.hid hrd5
      have HR6 := Lib.hid hrd6
      have HW5 := Lib.hid hwf5
      have HW6 := Lib.hid hwf6
      clear BX3 BE3 c30 hw3 r6 hb6 BX4 r5' hrd5 hrd6 hwf5 hwf6 F1 F2 hcell0 hcell1 hX hY
      have na := HNA.out
      obtain ⟨Ax', cx', e9, _, _, _, hrx⟩ := row_of_own HX1.out.1 HX1.out.2
      injection e9 with e91 e92 e93
      subst e91
      have HRX := Lib.hid hrx
      clear hrx e92 e93
      generalize hla : x.at_.length = la at *
      have HLA := Lib.hid hla
      generalize hlX : X.length = lX at *
      generalize hlY : Y.length = lY at *
      have HLX := Lib.hid hlX
      have HLY := Lib.hid hlY
      clear hla hlX hlY
      have q1 : decide ((la : Int) = 0) = false := decide_eq_false (by omega)
      have q1' : ((la : Int) == 0) = false := by simp; omega
      have q2 : ((lX : Int) + (lY : Int) != (la : Int)) = false := by simp; omega
      have qs : (lX : Int) + (lY : Int) ≤ 9223372036854775807 := by unfold maxLen at hcx2; omega
      clear na
      rcases Nat.eq_zero_or_pos i with hi0 | hi0
      · subst hi0
        go_wp2_with fail
        go_quiet (fail)
        have b4 := Lib.hid (below_drewN BE4.out nq)
        have BX4 := Lib.hid (HBX4.out.drewN nq)
        have R5 : Hid (Reads (w4.drewN nq) (w4.drewN nq).heap.size 1 A5 lX (X.map (.int .i64))) := HR5
        have R6 : Hid (Reads (w4.drewN nq) (w4.drewN nq).heap.size 1 A6 lY (Y.map (.int .i64))) := HR6
        have lab : (la : Int) ≤ 9223372036854775807 := by have := HNA.out; omega
        clear BE4 HBX4 HR5 HR6 d0 d1 q1 q1' q2 hc1 hc2 hc22 hcx1 hcx2 hc51 hc52 hc61 hc62 hnz qs
        generalize w4.drewN nq = W4 at *
        have d0 := BX4.out.cell 0
        have d1 := BX4.out.cell 1
        go_wp2_with fail
        go_loopw [18] (fun vk W => ∃ k : Nat, k ≤ la ∧ vk = .int .i64 (k : Int) ∧ Below W4.heap.size W4 W) (fun vk _ => la - (intOf vk).toNat)
        case atStart => exact ⟨0, Nat.zero_le _, rfl, Below.refl _ _⟩
        case round =>
          clear d0 d1
          obtain ⟨k, hk, rfl, hbk⟩ := hrel
          have HBK := Lib.hid hbk
          have BXK := Lib.hid (BX4.out.below hbk BX4.out.lt)
          have e0 := BXK.out.cell 0
          have e1 := BXK.out.cell 1
          clear hbk
          rcases Nat.lt_or_ge k la with hkl | hkg
          · have kk : (k : Int) < (la : Int) := by omega
            obtain ⟨p, hzp, hp1, hp2, _⟩ := place_ok u.data.toList x.k (x.at_.getD k 0) (by
              have := HX2.out
              unfold wordsOf at this
              rw [← this, List.getD_eq_getElem?_getD, List.getElem?_eq_getElem (by rw [HLA.out]; exact hkl)]
              exact List.getElem_mem _)
            obtain ⟨gx, ox, rfl, _, hzk⟩ := Row.at_ (show Reads wr w2.heap.size 1 Ax x.at_.length (x.at_.map (.int .i64)) by rw [HLA.out]; exact HRX.out.below (b4.out.trans (HBK.out.mono b4.out.size))) (show k < x.at_.length by rw [HLA.out]; exact hkl)
            rw [hzp] at hzk
            have hup9 := places_up u.data.toList x.k
            have hul : u.data.toList.length = u.size := by simp
            rw [hul] at hp2
            have f0 : (u.size : Int) ≤ 200 := by have := UZ.out; omega
            have f9 : (⟨x.k.toArray⟩ : ByteArray).size = x.k.length := by simp [ByteArray.size]
            have f1 : decide ((p : Int) < 0) = false := decide_eq_false (by omega)
            have f2 : decide ((u.size : Int) < (p : Int) + (x.k.length : Int)) = false := decide_eq_false (by omega)
            have f3 : (p : Int) ≤ (p : Int) + (x.k.length : Int) := by omega
            have f4 : (p : Int) + (x.k.length : Int) ≤ (u.size : Int) := by omega
            have f10 : (p : Int) + (x.k.length : Int) ≤ 9223372036854775807 := by omega
            have f11 : -9223372036854775808 ≤ (p : Int) + (x.k.length : Int) := by omega
            have f5 : ((u.extract p (p + x.k.length)).toList == x.k) = true := by
              rw [beq_iff_eq, ByteArray.toList_eq, bytes_cut, List.drop_take, Nat.add_sub_cancel_left]
              exact hp1
            go_wp2_with fail
            rcases Nat.eq_zero_or_pos k with hk0 | hk0
            · have f6 : decide ((0 : Int) < (k : Int)) = false := decide_eq_false (by omega)
              go_quiet (fail)
              clear hk0
              have pb : (p : Int) ≤ 200 := by omega
              clear f1 f2 f3 f4 f5 f6 f9 f0 f10 f11 hzk hul
              have W5 := Lib.hid (below_drewN HBK.out nq)
              have HZP := Lib.hid hzp
              have KL : (k) < la := hkl
              clear hzp hp1 hp2 e0 e1 kk
              generalize wr.drewN nq = V5 at *
              rcases Nat.lt_or_ge (k) lX with hx | hx
              · obtain ⟨b5, o5, rfl, _, h5⟩ := Row.at_ (show Reads V5 W4.heap.size 1 A5 X.length (X.map (.int .i64)) by rw [HLX.out]; exact R5.out.below W5.out) (show (k) < X.length by rw [HLX.out]; exact hx)
                have hxv : X.getD (k) 0 = (p : Int) := by
                  rw [← HZP.out, HXL.out, List.getD_eq_getElem?_getD, List.getD_eq_getElem?_getD, List.getElem?_append_left (by rw [HLX.out]; exact hx)]
                rw [hxv] at h5
                have g1 : decide ((lX : Int) ≤ (k : Int)) = false := decide_eq_false (by omega)
                have g2 : (k : Int) < (lX : Int) := by omega
                have g3 : (0 : Int) ≤ (k : Int) := by omega
                clear hxv
                go_wp2_with fail
                exact ⟨⟨(k) + 1, by omega, by go_num, W5.out⟩, by simp [intOf]; omega⟩
              · obtain ⟨m, hm⟩ : ∃ m, (k) = lX + m := ⟨(k) - lX, by omega⟩
                have hmY : m < lY := by have := HNA.out; omega
                obtain ⟨b6, o6, rfl, _, h6⟩ := Row.at_ (show Reads V5 W4.heap.size 1 A6 Y.length (Y.map (.int .i64)) by rw [HLY.out]; exact R6.out.below W5.out) (show m < Y.length by rw [HLY.out]; exact hmY)
                have hyv : Y.getD m 0 + ((s.size + 1 : Nat) : Int) = (p : Int) := by
                  rw [← HZP.out, HXL.out, List.getD_eq_getElem?_getD, List.getD_eq_getElem?_getD, List.getElem?_append_right (by rw [HLX.out]; exact hx), HLX.out, show (k) - lX = m by omega, List.getElem?_map, List.getElem?_eq_getElem (by rw [HLY.out]; exact hmY)]
                  rfl
                obtain ⟨yv, hy9⟩ : ∃ yv, Y.getD m 0 = yv := ⟨_, rfl⟩
                rw [hy9] at h6 hyv
                have g1 : (lX : Int) ≤ (k : Int) := by omega
                have g2 : (k : Int) - (lX : Int) = (m : Int) := by omega
                have g3 : (0 : Int) ≤ (m : Int) := by omega
                have g4 : (m : Int) < (lY : Int) := by omega
                have g5 : yv ≤ 200 := by omega
                have g6 : -200 ≤ yv := by omega
                have g7 : (yv + (s.size : Int) + 1 != (p : Int)) = false := by
                  rw [bne_eq_false_iff_eq]
                  omega
                clear hyv hy9 hm
                go_wp2_with fail
                exact ⟨⟨(k) + 1, by omega, by go_num, W5.out⟩, by simp [intOf]; omega⟩
            · obtain ⟨k', rfl⟩ : ∃ k', k = k' + 1 := ⟨k - 1, by omega⟩
              obtain ⟨p', hzp', _⟩ := place_ok u.data.toList x.k (x.at_.getD k' 0) (by
                have := HX2.out
                unfold wordsOf at this
                rw [← this, List.getD_eq_getElem?_getD, List.getElem?_eq_getElem (by rw [HLA.out]; omega)]
                exact List.getElem_mem _)
              obtain ⟨g2, o2, e2, _, hzk'⟩ := Row.at_ (show Reads wr w2.heap.size 1 (some ⟨gx, ox, none⟩) x.at_.length (x.at_.map (.int .i64)) by rw [HLA.out]; exact HRX.out.below (b4.out.trans (HBK.out.mono b4.out.size))) (show k' < x.at_.length by rw [HLA.out]; omega)
              injection e2 with e2
              injection e2 with e21 e22 _
              subst e21; subst e22
              have hpp : (p' : Int) < (p : Int) := by
                have h9 := HX2.out
                unfold wordsOf at h9
                rw [← h9] at hup9
                have := List.pairwise_iff_getElem.1 hup9 k' (k' + 1) (by rw [HLA.out]; omega) (by rw [HLA.out]; exact hkl) (by omega)
                rw [← hzp, ← hzp', List.getD_eq_getElem?_getD, List.getD_eq_getElem?_getD, List.getElem?_eq_getElem (by rw [HLA.out]; omega), List.getElem?_eq_getElem (by rw [HLA.out]; exact hkl)]
                exact this
              rw [hzp'] at hzk'
              have zz : True := trivial
              have z1 := And.intro zz zz
              have z2 := And.intro zz zz
              have z3 := And.intro zz zz
              have z4 := And.intro zz zz
              have z5 := And.intro zz zz
              have z6 := And.intro zz zz
              have z7 := And.intro zz zz
              have z8 := And.intro zz zz
              have z9 := And.intro zz zz
              have z10 := And.intro zz zz
              have z11 := And.intro zz zz
              have z12 := And.intro zz zz
              have z13 := And.intro zz zz
              have z14 := And.intro zz zz
              have z15 := And.intro zz zz
              have z16 := And.intro zz zz
              have z17 := And.intro zz zz
              have z18 := And.intro zz zz
              have j1 : (0 : Int) < (k' : Int) + 1 := by omega
              have j2 : (k' : Int) + 1 - 1 = (k' : Int) := by omega
              have j3 : (0 : Int) ≤ (k' : Int) := by omega
              have j4 : (k' : Int) < (la : Int) := by omega
              have j5 : decide ((p : Int) ≤ (p' : Int)) = false := decide_eq_false (by omega)
              have j6 : decide (p ≤ p') = false := decide_eq_false (by omega)
              clear hzp' hpp
              go_quiet (fail)
              clear j1 j2 j3 j4 j5 j6 hzk'
              have f6 := kk
              have pb : (p : Int) ≤ 200 := by omega
              clear f1 f2 f3 f4 f5 f6 f9 f0 f10 f11 hzk hul
              have W5 := Lib.hid (below_drewN HBK.out nq)
              have HZP := Lib.hid hzp
              have KL : ((k' + 1)) < la := hkl
              clear hzp hp1 hp2 e0 e1 kk
              generalize wr.drewN nq = V5 at *
              rcases Nat.lt_or_ge ((k' + 1)) lX with hx | hx
              · obtain ⟨b5, o5, rfl, _, h5⟩ := Row.at_ (show Reads V5 W4.heap.size 1 A5 X.length (X.map (.int .i64)) by rw [HLX.out]; exact R5.out.below W5.out) (show ((k' + 1)) < X.length by rw [HLX.out]; exact hx)
                have hxv : X.getD ((k' + 1)) 0 = (p : Int) := by
                  rw [← HZP.out, HXL.out, List.getD_eq_getElem?_getD, List.getD_eq_getElem?_getD, List.getElem?_append_left (by rw [HLX.out]; exact hx)]
                rw [hxv] at h5
                have g1 : decide ((lX : Int) ≤ ((k' : Int) + 1)) = false := decide_eq_false (by omega)
                have g2 : ((k' : Int) + 1) < (lX : Int) := by omega
                have g3 : (0 : Int) ≤ ((k' : Int) + 1) := by omega
                clear hxv
                go_wp2_with fail
                exact ⟨⟨((k' + 1)) + 1, by omega, by go_num, W5.out⟩, by simp [intOf]; omega⟩
              · obtain ⟨m, hm⟩ : ∃ m, ((k' + 1)) = lX + m := ⟨((k' + 1)) - lX, by omega⟩
                have hmY : m < lY := by have := HNA.out; omega
                obtain ⟨b6, o6, rfl, _, h6⟩ := Row.at_ (show Reads V5 W4.heap.size 1 A6 Y.length (Y.map (.int .i64)) by rw [HLY.out]; exact R6.out.below W5.out) (show m < Y.length by rw [HLY.out]; exact hmY)
                have hyv : Y.getD m 0 + ((s.size + 1 : Nat) : Int) = (p : Int) := by
                  rw [← HZP.out, HXL.out, List.getD_eq_getElem?_getD, List.getD_eq_getElem?_getD, List.getElem?_append_right (by rw [HLX.out]; exact hx), HLX.out, show ((k' + 1)) - lX = m by omega, List.getElem?_map, List.getElem?_eq_getElem (by rw [HLY.out]; exact hmY)]
                  rfl
                obtain ⟨yv, hy9⟩ : ∃ yv, Y.getD m 0 = yv := ⟨_, rfl⟩
                rw [hy9] at h6 hyv
                have g1 : (lX : Int) ≤ ((k' : Int) + 1) := by omega
                have g2 : ((k' : Int) + 1) - (lX : Int) = (m : Int) := by omega
                have g3 : (0 : Int) ≤ (m : Int) := by omega
                have g4 : (m : Int) < (lY : Int) := by omega
                have g5 : yv ≤ 200 := by omega
                have g6 : -200 ≤ yv := by omega
                have g7 : (yv + (s.size : Int) + 1 != (p : Int)) = false := by
                  rw [bne_eq_false_iff_eq]
                  omega
                clear hyv hy9 hm
                go_wp2_with fail
                exact ⟨⟨((k' + 1)) + 1, by omega, by go_num, W5.out⟩, by simp [intOf]; omega⟩
          · have kk : decide ((k : Int) < (la : Int)) = false := decide_eq_false (by omega)
            go_wp2_with fail
            exact ⟨⟨0 + 1, by omega, by go_num, b4.out.trans (HBK.out.mono b4.out.size)⟩, by simp [intOf]; omega⟩
      · obtain ⟨i', rfl⟩ : ∃ i', i = i' + 1 := ⟨i - 1, by omega⟩
        have hlt' : i' < l.length := by omega
        obtain ⟨bp, op, ep, hp0, _⟩ : ∃ bp op, some (⟨bo, oo, none⟩ : Addr) = some ⟨bp, op, none⟩ ∧ w4.cell? ⟨bp, op + i' * 2, none⟩ = some (.string ⟨l[i'].k.toArray⟩) ∧ True := by
          obtain ⟨bp, op, e1, _, e2, e3⟩ := CRow.at2 (x := fun x : WV => Value.string ⟨x.k.toArray⟩) (y := fun x : WV => x.v) (HRD.out.below BE4.out) hlt'
          exact ⟨bp, op, e1, e2, trivial⟩
        injection ep with ep
        injection ep with ep1 ep2 _
        subst ep1; subst ep2
        have hup := (List.pairwise_iff_getElem.1 HOK.out.up) i' (i' + 1) (by simpa using hlt') (by simpa using hlt) (by omega)
        rw [List.getElem_map, List.getElem_map, HX.out] at hup
        obtain ⟨y, hy⟩ : ∃ y, l[i'] = y := ⟨_, rfl⟩
        rw [hy] at hp0 hup
        have j1 : (0 : Int) < (i' : Int) + 1 := by omega
        have j2 : (i' : Int) + 1 - 1 = (i' : Int) := by omega
        have j3 : (0 : Int) ≤ (i' : Int) := by omega
        have j4 : (i' : Int) < (l.length : Int) := by omega
        have yy : True := trivial
        have y1 := And.intro yy yy
        have y2 := And.intro yy yy
        have y3 := And.intro yy yy
        have y4 := And.intro yy yy
        have y5 := And.intro yy yy
        have y6 := And.intro yy yy
        have y7 := And.intro yy yy
        have y8 := And.intro yy yy
        have y9 := And.intro yy yy
        have y10 := And.intro yy yy
        have y11 := And.intro yy yy
        have y12 := And.intro yy yy
        have y13 := And.intro yy yy
        have y14 := And.intro yy yy
        have y15 := And.intro yy yy
        have y16 := And.intro yy yy
        have y17 := And.intro yy yy
        have y18 := And.intro yy yy
        have y19 := And.intro yy yy
        have y20 := And.intro yy yy
        have y21 := And.intro yy yy
        have y22 := And.intro yy yy
        have y23 := And.intro yy yy
        have y24 := And.intro yy yy
        have y25 := And.intro yy yy
        have y26 := And.intro yy yy
        have y27 := And.intro yy yy
        have y28 := And.intro yy yy
        have y29 := And.intro yy yy
        have y30 := And.intro yy yy
        have y31 := And.intro yy yy
        have y32 := And.intro yy yy
        have y33 := And.intro yy yy
        have y34 := And.intro yy yy
        have y35 := And.intro yy yy
        have y36 := And.intro yy yy
        have y37 := And.intro yy yy
        have y38 := And.intro yy yy
        have y39 := And.intro yy yy
        have y40 := And.intro yy yy
        have hstr : Op.bytesLess y.k x.k = true := less_of hup.1 hup.2
        clear hy hlt'
        go_wp2_with fail
        go_quiet (fail)
        clear hstr hp0 hup j1 j2 j3 j4
        have b4 := Lib.hid (below_drewN BE4.out nq)
        have BX4 := Lib.hid (HBX4.out.drewN nq)
        have R5 : Hid (Reads (w4.drewN nq) (w4.drewN nq).heap.size 1 A5 lX (X.map (.int .i64))) := HR5
        have R6 : Hid (Reads (w4.drewN nq) (w4.drewN nq).heap.size 1 A6 lY (Y.map (.int .i64))) := HR6
        have lab : (la : Int) ≤ 9223372036854775807 := by have := HNA.out; omega
        clear BE4 HBX4 HR5 HR6 d0 d1 q1 q1' q2 hc1 hc2 hc22 hcx1 hcx2 hc51 hc52 hc61 hc62 hnz qs
        generalize w4.drewN nq = W4 at *
        have d0 := BX4.out.cell 0
        have d1 := BX4.out.cell 1
        go_wp2_with fail
        go_loopw [18] (fun vk W => ∃ k : Nat, k ≤ la ∧ vk = .int .i64 (k : Int) ∧ Below W4.heap.size W4 W) (fun vk _ => la - (intOf vk).toNat)
        case atStart => exact ⟨0, Nat.zero_le _, rfl, Below.refl _ _⟩
        case round =>
          clear d0 d1
          obtain ⟨k, hk, rfl, hbk⟩ := hrel
          have HBK := Lib.hid hbk
          have BXK := Lib.hid (BX4.out.below hbk BX4.out.lt)
          have e0 := BXK.out.cell 0
          have e1 := BXK.out.cell 1
          clear hbk
          rcases Nat.lt_or_ge k la with hkl | hkg
          · have kk : (k : Int) < (la : Int) := by omega
            obtain ⟨p, hzp, hp1, hp2, _⟩ := place_ok u.data.toList x.k (x.at_.getD k 0) (by
              have := HX2.out
              unfold wordsOf at this
              rw [← this, List.getD_eq_getElem?_getD, List.getElem?_eq_getElem (by rw [HLA.out]; exact hkl)]
              exact List.getElem_mem _)
            obtain ⟨gx, ox, rfl, _, hzk⟩ := Row.at_ (show Reads wr w2.heap.size 1 Ax x.at_.length (x.at_.map (.int .i64)) by rw [HLA.out]; exact HRX.out.below (b4.out.trans (HBK.out.mono b4.out.size))) (show k < x.at_.length by rw [HLA.out]; exact hkl)
            rw [hzp] at hzk
            have hup9 := places_up u.data.toList x.k
            have hul : u.data.toList.length = u.size := by simp
            rw [hul] at hp2
            have f0 : (u.size : Int) ≤ 200 := by have := UZ.out; omega
            have f9 : (⟨x.k.toArray⟩ : ByteArray).size = x.k.length := by simp [ByteArray.size]
            have f1 : decide ((p : Int) < 0) = false := decide_eq_false (by omega)
            have f2 : decide ((u.size : Int) < (p : Int) + (x.k.length : Int)) = false := decide_eq_false (by omega)
            have f3 : (p : Int) ≤ (p : Int) + (x.k.length : Int) := by omega
            have f4 : (p : Int) + (x.k.length : Int) ≤ (u.size : Int) := by omega
            have f10 : (p : Int) + (x.k.length : Int) ≤ 9223372036854775807 := by omega
            have f11 : -9223372036854775808 ≤ (p : Int) + (x.k.length : Int) := by omega
            have f5 : ((u.extract p (p + x.k.length)).toList == x.k) = true := by
              rw [beq_iff_eq, ByteArray.toList_eq, bytes_cut, List.drop_take, Nat.add_sub_cancel_left]
              exact hp1
            go_wp2_with fail
            rcases Nat.eq_zero_or_pos k with hk0 | hk0
            · have f6 : decide ((0 : Int) < (k : Int)) = false := decide_eq_false (by omega)
              go_quiet (fail)
              clear hk0
              have pb : (p : Int) ≤ 200 := by omega
              clear f1 f2 f3 f4 f5 f6 f9 f0 f10 f11 hzk hul
              have W5 := Lib.hid (below_drewN HBK.out nq)
              have HZP := Lib.hid hzp
              have KL : (k) < la := hkl
              clear hzp hp1 hp2 e0 e1 kk
              generalize wr.drewN nq = V5 at *
              rcases Nat.lt_or_ge (k) lX with hx | hx
              · obtain ⟨b5, o5, rfl, _, h5⟩ := Row.at_ (show Reads V5 W4.heap.size 1 A5 X.length (X.map (.int .i64)) by rw [HLX.out]; exact R5.out.below W5.out) (show (k) < X.length by rw [HLX.out]; exact hx)
                have hxv : X.getD (k) 0 = (p : Int) := by
                  rw [← HZP.out, HXL.out, List.getD_eq_getElem?_getD, List.getD_eq_getElem?_getD, List.getElem?_append_left (by rw [HLX.out]; exact hx)]
                rw [hxv] at h5
                have g1 : decide ((lX : Int) ≤ (k : Int)) = false := decide_eq_false (by omega)
                have g2 : (k : Int) < (lX : Int) := by omega
                have g3 : (0 : Int) ≤ (k : Int) := by omega
                clear hxv
                go_wp2_with fail
                exact ⟨⟨(k) + 1, by omega, by go_num, W5.out⟩, by simp [intOf]; omega⟩
              · obtain ⟨m, hm⟩ : ∃ m, (k) = lX + m := ⟨(k) - lX, by omega⟩
                have hmY : m < lY := by have := HNA.out; omega
                obtain ⟨b6, o6, rfl, _, h6⟩ := Row.at_ (show Reads V5 W4.heap.size 1 A6 Y.length (Y.map (.int .i64)) by rw [HLY.out]; exact R6.out.below W5.out) (show m < Y.length by rw [HLY.out]; exact hmY)
                have hyv : Y.getD m 0 + ((s.size + 1 : Nat) : Int) = (p : Int) := by
                  rw [← HZP.out, HXL.out, List.getD_eq_getElem?_getD, List.getD_eq_getElem?_getD, List.getElem?_append_right (by rw [HLX.out]; exact hx), HLX.out, show (k) - lX = m by omega, List.getElem?_map, List.getElem?_eq_getElem (by rw [HLY.out]; exact hmY)]
                  rfl
                obtain ⟨yv, hy9⟩ : ∃ yv, Y.getD m 0 = yv := ⟨_, rfl⟩
                rw [hy9] at h6 hyv
                have g1 : (lX : Int) ≤ (k : Int) := by omega
                have g2 : (k : Int) - (lX : Int) = (m : Int) := by omega
                have g3 : (0 : Int) ≤ (m : Int) := by omega
                have g4 : (m : Int) < (lY : Int) := by omega
                have g5 : yv ≤ 200 := by omega
                have g6 : -200 ≤ yv := by omega
                have g7 : (yv + (s.size : Int) + 1 != (p : Int)) = false := by
                  rw [bne_eq_false_iff_eq]
                  omega
                clear hyv hy9 hm
                go_wp2_with fail
                exact ⟨⟨(k) + 1, by omega, by go_num, W5.out⟩, by simp [intOf]; omega⟩
            · obtain ⟨k', rfl⟩ : ∃ k', k = k' + 1 := ⟨k - 1, by omega⟩
              obtain ⟨p', hzp', _⟩ := place_ok u.data.toList x.k (x.at_.getD k' 0) (by
                have := HX2.out
                unfold wordsOf at this
                rw [← this, List.getD_eq_getElem?_getD, List.getElem?_eq_getElem (by rw [HLA.out]; omega)]
                exact List.getElem_mem _)
              obtain ⟨g2, o2, e2, _, hzk'⟩ := Row.at_ (show Reads wr w2.heap.size 1 (some ⟨gx, ox, none⟩) x.at_.length (x.at_.map (.int .i64)) by rw [HLA.out]; exact HRX.out.below (b4.out.trans (HBK.out.mono b4.out.size))) (show k' < x.at_.length by rw [HLA.out]; omega)
              injection e2 with e2
              injection e2 with e21 e22 _
              subst e21; subst e22
              have hpp : (p' : Int) < (p : Int) := by
                have h9 := HX2.out
                unfold wordsOf at h9
                rw [← h9] at hup9
                have := List.pairwise_iff_getElem.1 hup9 k' (k' + 1) (by rw [HLA.out]; omega) (by rw [HLA.out]; exact hkl) (by omega)
                rw [← hzp, ← hzp', List.getD_eq_getElem?_getD, List.getD_eq_getElem?_getD, List.getElem?_eq_getElem (by rw [HLA.out]; omega), List.getElem?_eq_getElem (by rw [HLA.out]; exact hkl)]
                exact this
              rw [hzp'] at hzk'
              have zz : True := trivial
              have z1 := And.intro zz zz
              have z2 := And.intro zz zz
              have z3 := And.intro zz zz
              have z4 := And.intro zz zz
              have z5 := And.intro zz zz
              have z6 := And.intro zz zz
              have z7 := And.intro zz zz
              have z8 := And.intro zz zz
              have z9 := And.intro zz zz
              have z10 := And.intro zz zz
              have z11 := And.intro zz zz
              have z12 := And.intro zz zz
              have z13 := And.intro zz zz
              have z14 := And.intro zz zz
              have z15 := And.intro zz zz
              have z16 := And.intro zz zz
              have z17 := And.intro zz zz
              have z18 := And.intro zz zz
              have j1 : (0 : Int) < (k' : Int) + 1 := by omega
              have j2 : (k' : Int) + 1 - 1 = (k' : Int) := by omega
              have j3 : (0 : Int) ≤ (k' : Int) := by omega
              have j4 : (k' : Int) < (la : Int) := by omega
              have j5 : decide ((p : Int) ≤ (p' : Int)) = false := decide_eq_false (by omega)
              have j6 : decide (p ≤ p') = false := decide_eq_false (by omega)
              clear hzp' hpp
              go_quiet (fail)
              clear j1 j2 j3 j4 j5 j6 hzk'
              have f6 := kk
              have pb : (p : Int) ≤ 200 := by omega
              clear f1 f2 f3 f4 f5 f6 f9 f0 f10 f11 hzk hul
              have W5 := Lib.hid (below_drewN HBK.out nq)
              have HZP := Lib.hid hzp
              have KL : ((k' + 1)) < la := hkl
              clear hzp hp1 hp2 e0 e1 kk
              generalize wr.drewN nq = V5 at *
              rcases Nat.lt_or_ge ((k' + 1)) lX with hx | hx
              · obtain ⟨b5, o5, rfl, _, h5⟩ := Row.at_ (show Reads V5 W4.heap.size 1 A5 X.length (X.map (.int .i64)) by rw [HLX.out]; exact R5.out.below W5.out) (show ((k' + 1)) < X.length by rw [HLX.out]; exact hx)
                have hxv : X.getD ((k' + 1)) 0 = (p : Int) := by
                  rw [← HZP.out, HXL.out, List.getD_eq_getElem?_getD, List.getD_eq_getElem?_getD, List.getElem?_append_left (by rw [HLX.out]; exact hx)]
                rw [hxv] at h5
                have g1 : decide ((lX : Int) ≤ ((k' : Int) + 1)) = false := decide_eq_false (by omega)
                have g2 : ((k' : Int) + 1) < (lX : Int) := by omega
                have g3 : (0 : Int) ≤ ((k' : Int) + 1) := by omega
                clear hxv
                go_wp2_with fail
                exact ⟨⟨((k' + 1)) + 1, by omega, by go_num, W5.out⟩, by simp [intOf]; omega⟩
              · obtain ⟨m, hm⟩ : ∃ m, ((k' + 1)) = lX + m := ⟨((k' + 1)) - lX, by omega⟩
                have hmY : m < lY := by have := HNA.out; omega
                obtain ⟨b6, o6, rfl, _, h6⟩ := Row.at_ (show Reads V5 W4.heap.size 1 A6 Y.length (Y.map (.int .i64)) by rw [HLY.out]; exact R6.out.below W5.out) (show m < Y.length by rw [HLY.out]; exact hmY)
                have hyv : Y.getD m 0 + ((s.size + 1 : Nat) : Int) = (p : Int) := by
                  rw [← HZP.out, HXL.out, List.getD_eq_getElem?_getD, List.getD_eq_getElem?_getD, List.getElem?_append_right (by rw [HLX.out]; exact hx), HLX.out, show ((k' + 1)) - lX = m by omega, List.getElem?_map, List.getElem?_eq_getElem (by rw [HLY.out]; exact hmY)]
                  rfl
                obtain ⟨yv, hy9⟩ : ∃ yv, Y.getD m 0 = yv := ⟨_, rfl⟩
                rw [hy9] at h6 hyv
                have g1 : (lX : Int) ≤ ((k' : Int) + 1) := by omega
                have g2 : ((k' : Int) + 1) - (lX : Int) = (m : Int) := by omega
                have g3 : (0 : Int) ≤ (m : Int) := by omega
                have g4 : (m : Int) < (lY : Int) := by omega
                have g5 : yv ≤ 200 := by omega
                have g6 : -200 ≤ yv := by omega
                have g7 : (yv + (s.size : Int) + 1 != (p : Int)) = false := by
                  rw [bne_eq_false_iff_eq]
                  omega
                clear hyv hy9 hm
                go_wp2_with fail
                exact ⟨⟨((k' + 1)) + 1, by omega, by go_num, W5.out⟩, by simp [intOf]; omega⟩
          · have kk : decide ((k : Int) < (la : Int)) = false := decide_eq_false (by omega)
            go_wp2_with fail
            exact ⟨⟨i' + 1 + 1, by omega, by go_num, b4.out.trans (HBK.out.mono b4.out.size)⟩, by simp [intOf]; omega⟩
    · have k0 : decide ((i : Int) < (l.length : Int)) = false := decide_eq_false (by omega)
      go_wp2_with fail
      go_ret
      exact ⟨rfl, HB2.out.trans (HBR.out.mono HB2.out.size)⟩
end Go.Proofs.Ytpgjjnbepkofdaa
