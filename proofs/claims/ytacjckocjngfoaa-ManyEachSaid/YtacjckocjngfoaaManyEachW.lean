/-
  The law ManyEach, walked: many finds give what each gives alone.
-/
import Derived.Test.YtacjckocjngfoaaMany
import Derived.Test.YtacjckocjngfoaaManyQ
import Derived.Test.YtacjckocjngfoaaFindS
import Derived.Test.YtacjckocjngfoaaFew
import Derived.Test.YtacjckocjngfoaaRws
import Derived.BigQuiet
import Derived.Deep.QuietTactic
namespace Go.Proofs.Ytacjckocjngfoaa
open Go.RowKit
set_option linter.unusedVariables false
set_option linter.unusedSimpArgs false

theorem mstr_info : (Try.prog.info? 9).map (fun i => (i.zero, i.size, i.bytes)) = some (some (.string ⟨#[]⟩), 1, 16) := by kernel_rfl
theorem few_size (xs : List Int) (n : Nat) (s : ByteArray) (h : s.data.toList = (xs.take n).map ab) : s.size ≤ n := by
  have h2 : s.data.toList.length = s.size := by simp
  rw [← h2, h]; simp; omega
set_option maxRecDepth 100000 in
set_option maxHeartbeats 16000000 in
theorem manyEach_walk (w : World) (v0 : Value) (xs : List Int) (h0 : Row .i64 w v0 xs) (v1 : Value) (xss : List (List Int)) (h1 : Rws w v1 xss) :
    Calls Try.prog 3 #[v0, v1] w fun e w' => e = .returned (.bool true) ∧ Below w.heap.size w w' := by
  have HF0 := Lib.hid (few_any v0 xs 60 w h0 (by omega) (by omega))
  have H1 := Lib.hid h1
  obtain ⟨A1, c1, rfl, hl1, hc1, _⟩ := h1
  unfold maxLen at hc1
  clear h0
  go_enter Try.func3, Try.ntmps3
  go_wp2_with fail
  refine HF0.out.mono ?_
  rintro e w1 ⟨s, rfl, hs, hb1⟩
  have hss := few_size _ _ _ hs
  have HB1 := Lib.hid hb1
  clear HF0 hs hb1
  go_wp2_with fail
  go_loopw [6, 7] (fun vo vi wr => ∃ (i : Nat) (o : List ByteArray), vi = .int .i64 (i : Int) ∧ i ≤ xss.length ∧ o.length ≤ 8 ∧ Hid ((∀ s ∈ o, 0 < s.size ∧ s.size ≤ 7) ∧ o.Nodup) ∧ wr.ownsRow w.heap.size 9 1 vo o.length (o.map .string) ∧ Below w.heap.size w wr) (fun _ vi _ => xss.length - (intOf vi).toNat)
  case atStart => exact ⟨0, [], rfl, Nat.zero_le _, Nat.zero_le _, Lib.hid ⟨by simp, List.Pairwise.nil⟩, World.ownsRow_nil _ _ _ _, HB1.out⟩
  case round =>
    obtain ⟨i, o, rfl, hix, ho8, HS, hown, hb⟩ := hrel
    have HO := Lib.hid hown
    have HB := Lib.hid hb
    have hbs := hb.size
    clear HB1
    obtain ⟨Ao, co, rfl, ho1, ho2⟩ := own_slice hown
    clear hown hb
    by_cases hlt : i < xss.length ∧ o.length < 8
    · obtain ⟨hlt1, hlt2⟩ := hlt
      obtain ⟨b, off, u, rfl, hbb, x0, hru⟩ := Rws.at_ (H1.out.later HB.out) hlt1
      have HF := Lib.hid (few_any u xss[i] 6 wr hru (by omega) (by omega))
      have hi0 : (0 : Int) ≤ (i : Int) := by omega
      have hi1 : (i : Int) < (xss.length : Int) := by omega
      have hi2 : (o.length : Int) < 8 := by omega
      clear hru
      go_wp2_with fail
      refine HF.out.mono ?_
      rintro e w2 ⟨t, rfl, ht, hb2⟩
      have hts := few_size _ _ _ ht
      have HO2 := Lib.hid (own_below HO.out hb2)
      have HB2 := Lib.hid (bstep HB.out hb2)
      clear ht hb2 HF x0 HO HB
      have hno : ¬ ((t.size + (⟨#[97]⟩ : ByteArray).size : Nat) : Int) > IntKind.i64.max := by
        have : (⟨#[97]⟩ : ByteArray).size = 1 := rfl
        have h3 : IntKind.i64.max = 9223372036854775807 := by decide
        omega
      go_wp2_with fail
      have hfs : 0 < (t ++ ⟨#[97]⟩ : ByteArray).size ∧ (t ++ ⟨#[97]⟩ : ByteArray).size ≤ 7 := by
        have : (⟨#[97]⟩ : ByteArray).size = 1 := rfl
        rw [ByteArray.size_append]; omega
      generalize (t ++ ⟨#[97]⟩ : ByteArray) = f at *
      clear hno hts
      go_loopw [9, 10] (fun vf vk W => ∃ (k : Nat) (fr : Bool), k ≤ o.length ∧ vk = .int .i64 (k : Int) ∧ vf = .bool fr ∧ Hid (fr = true ↔ f ∉ o.take k) ∧ Below w2.heap.size w2 W) (fun _ vk _ => o.length - (intOf vk).toNat)
      case atStart => exact ⟨0, true, Nat.zero_le _, rfl, rfl, Lib.hid (by simp), Below.refl _ _⟩
      case round =>
        obtain ⟨k, fr, hk, rfl, rfl, HFR, hbk⟩ := hrel
        have HBK := Lib.hid hbk
        clear hbk
        rcases Nat.lt_or_ge k o.length with hkl | hkg
        · obtain ⟨b', o', rfl, _, x1⟩ := SRow.at_ ((Reads.of_own HO2.out).below HBK.out) hkl
          have m1 : (0 : Int) ≤ (k : Int) := by omega
          have m2 : (k : Int) < (o.length : Int) := by omega
          have HTK := Lib.hid (List.take_succ_eq_append_getElem hkl)
          cases fr
          · go_wp2_with fail
            refine ⟨⟨k + 1, false, hkl, by go_num, rfl, Lib.hid ?_, HBK.out⟩, by simp [intOf]; omega⟩
            have h9 := HFR.out
            rw [HTK.out]
            simp only [Bool.false_eq_true, false_iff, Decidable.not_not] at h9 ⊢
            exact fun hn => hn (List.mem_append.2 (.inl (Classical.not_not.1 h9)))
          · by_cases he : o[k] = f
            · have hq := bytes_eq he
              have HE := Lib.hid he
              clear he
              generalize o[k] = y at *
              go_wp2_with fail
              refine ⟨⟨k + 1, false, hkl, by go_num, rfl, Lib.hid ?_, HBK.out⟩, by simp [intOf]; omega⟩
              rw [HTK.out]
              simp only [Bool.false_eq_true, false_iff, Decidable.not_not]
              exact fun hn => hn (List.mem_append.2 (.inr (List.mem_singleton.2 HE.out.symm)))
            · have hq := bytes_ne he
              have HE := Lib.hid he
              clear he
              generalize o[k] = y at *
              go_wp2_with fail
              refine ⟨⟨k + 1, true, hkl, by go_num, rfl, Lib.hid ?_, HBK.out⟩, by simp [intOf]; omega⟩
              have h9 := HFR.out
              rw [HTK.out]
              simp only [true_iff] at h9 ⊢
              intro hm
              rcases List.mem_append.1 hm with hm | hm
              · exact h9 hm
              · rw [List.mem_singleton] at hm; exact HE.out hm.symm
        · have j1 : decide ((k : Int) < (o.length : Int)) = false := decide_eq_false (by omega)
          obtain rfl : k = o.length := by omega
          have hfr := HFR.out
          rw [List.take_of_length_le (Nat.le_refl _)] at hfr
          have HFF := Lib.hid hfr
          have HB3 := Lib.hid (bstep HB2.out HBK.out)
          have HO3 := Lib.hid (own_below HO2.out HBK.out)
          clear hfr HFR HB2 HO2
          cases fr
          · go_wp2_with fail
            exact ⟨⟨i + 1, o, by go_num, hlt1, ho8, HS, HO3.out, HB3.out⟩, by simp [intOf]; omega⟩
          · go_wp2_with (at_builtin; go_loud (refine wpList_appN rfl (.tmp 54) (.tmp 56) _ rfl w.heap.size 9 _ 1 16 Try.underlying25 mstr_info rfl (by decide) (.slice Ao o.length co) o.length _ rfl HO3.out [.string f] rfl _ rfl (by simp) rfl (by simp [Value.oneCell']) (by omega) (by omega) HB3.out.size ?_; intro v8 w8 ho8' hB8 hg8; have HO8 := Lib.hid ho8'; have HB8 := Lib.hid (hB8 _ (Nat.le_refl _) _ HB3.out); clear ho8' hB8 hg8))
            refine ⟨⟨i + 1, o ++ [f], by go_num, hlt1, by rw [List.length_append, List.length_singleton]; omega, Lib.hid ⟨fun x hx => ?_, ?_⟩, ?_, HB8.out⟩, by simp [intOf]; omega⟩
            · rcases List.mem_append.1 hx with hx | hx
              · exact HS.out.1 x hx
              · rw [List.mem_singleton] at hx; subst hx; exact hfs
            · refine List.nodup_append.2 ⟨HS.out.2, by simp, fun a ha b hb e => ?_⟩
              rw [List.mem_singleton] at hb
              exact HFF.out.1 rfl (by rw [← hb, ← e]; exact ha)
            · rw [List.map_append, List.length_append]; exact HO8.out
    · by_cases hlt1 : i < xss.length
      · have hge : o.length = 8 := by omega
        have j1 : (i : Int) < (xss.length : Int) := by omega
        have j2 : decide ((o.length : Int) < 8) = false := decide_eq_false (by omega)
        have j3 : decide (o.length < 8) = false := decide_eq_false (by omega)
        clear hge hlt
        go_wp2_with (at_builtin; refine wpList_copyStrs rfl (.tmp 60) _ rfl 9 _ 16 Try.underlying25 mstr_info rfl _ o rfl (SRow.of_own HO.out) (by omega) (by omega) ?_)
        intro v3 w3 ho3 hr3 hb3
        have HM := Lib.hid (many_any s v3 o w3 hr3 ho8 (fun x hx => ⟨(HS.out.1 x hx).1, by have := (HS.out.1 x hx).2; omega⟩) HS.out.2 (by omega))
        have HO3 := Lib.hid (own_below HO.out hb3)
        have HB3 := Lib.hid (bstep HB.out hb3)
        clear ho3 hr3 hb3 HO HB
        go_wp2_with fail
        refine HM.out.mono ?_
        rintro e w4 ⟨vh, l, fd, rfl, hfds, hown4, hb4⟩
        have hlen := hitsAll_len l fd s.data.toList s.size
        have hpk : ∀ j (hj : j < o.length), occ s o[j] = picks (hitsAll l fd s.data.toList s.size) j := fun j hj => by
          have h9 := (HS.out.1 o[j] (List.getElem_mem hj)).1
          have hl9 : o[j].data.toList.length = o[j].size := by simp
          rw [occ_occL s o[j] h9]
          have h8 := hits_pick hfds s.data.toList j (by rw [List.length_map]; exact hj) (by rw [List.getElem_map]; intro e; rw [e] at hl9; simp at hl9; omega)
          rw [List.getElem_map] at h8
          rw [← h8]
          unfold picks
          rw [show s.data.toList.length = s.size by simp]
        have hin : ∀ x ∈ hitsAll l fd s.data.toList s.size, x.f < o.length := fun x hx => by
          have := (hits_in hfds s.data.toList s.size x hx).1
          rwa [List.length_map] at this
        have HPK := Lib.hid hpk
        have HIN := Lib.hid hin
        generalize hitsAll l fd s.data.toList s.size = hs at *
        have HO4 := Lib.hid (own_below HO3.out hb4)
        have HB4 := Lib.hid (bstep HB3.out hb4)
        have HC4 := Lib.hid (CRow.of_own htc_len hown4)
        clear hpk hin hfds hown4 hb4 HO3 HB3 HM
        go_wp2_with fail
        refine (findSure_any _).mono ?_
        rintro e w5 ⟨rfl, hb5⟩
        have HO5 := Lib.hid (own_below HO4.out hb5)
        have HB5 := Lib.hid (bstep HB4.out hb5)
        have HC5 := Lib.hid (HC4.out.later hb5)
        clear HO4 HB4 HC4 hb5
        have hh6 : hs.length ≤ 600 := by omega
        obtain ⟨Ah, ch, rfl, hch1, hch2, hrh⟩ := id HC5.out
        unfold maxLen at hch2
        have HRH := Lib.hid hrh
        have HCZ := Lib.hid (cnt_zero hs)
        have HCA := Lib.hid (cnt_all hs o.length HIN.out)
        clear hrh HC5 HIN hlen
        go_wp2_with fail
        go_loopw [13, 14] (fun va vj W => ∃ j : Nat, j ≤ o.length ∧ vj = .int .i64 (j : Int) ∧ va = .int .i64 (cntOf hs j : Int) ∧ Below w5.heap.size w5 W) (fun _ vj _ => o.length - (intOf vj).toNat)
        case atStart => exact ⟨0, Nat.zero_le _, rfl, by rw [HCZ.out]; rfl, Below.refl _ _⟩
        case round =>
          obtain ⟨j, hj, rfl, rfl, hbj⟩ := hrel
          have HBJ := Lib.hid hbj
          have HJ5 := Lib.hid (bstep HB5.out hbj)
          clear hbj
          rcases Nat.lt_or_ge j o.length with hjl | hjg
          · obtain ⟨b', o', rfl, _, x1⟩ := SRow.at_ ((Reads.of_own HO5.out).below HBJ.out) hjl
            have m1 : (0 : Int) ≤ (j : Int) := by omega
            have m2 : (j : Int) < (o.length : Int) := by omega
            have hsz := HS.out.1 o[j] (List.getElem_mem hjl)
            have HA := Lib.hid (fun W => all_any s o[j] W (by omega) (by omega) hsz.1)
            have HPJ := Lib.hid (HPK.out j hjl)
            have HCS := Lib.hid (cnt_succ hs j)
            have hcl := cnt_le hs j
            have hpl := picks_le hs j
            clear hsz
            generalize o[j] = t at *
            generalize cntOf hs j = cn at *
            go_wp2_with fail
            refine (HA.out _).mono ?_
            rintro e w6 ⟨vx, rfl, hrx, hb6⟩
            rw [HPJ.out] at hrx
            obtain ⟨Ax, cx, rfl, hx1, hx2, _, hrx2⟩ := hrx
            have hxl : (natI (picks hs j)).length = (picks hs j).length := by simp [natI]
            rw [hxl] at hrx2 hx1
            rw [hxl]
            unfold maxLen at hx2
            have HRX := Lib.hid hrx2
            have HB6 := Lib.hid (bstep HBJ.out hb6)
            have HKZ := Lib.hid (kk_zero hs j)
            have HKE := Lib.hid (kk_end hs j)
            clear hxl hrx2 hb6 HA HPJ x1
            go_wp2_with fail
            go_loopw [17, 18] (fun vk vm W => ∃ m : Nat, m ≤ hs.length ∧ vm = .int .i64 (m : Int) ∧ vk = .int .i64 (kkOf hs j m : Int) ∧ Below w6.heap.size w6 W) (fun _ vm _ => hs.length - (intOf vm).toNat)
            case atStart => exact ⟨0, Nat.zero_le _, rfl, by rw [HKZ.out]; rfl, Below.refl _ _⟩
            case round =>
              obtain ⟨m, hm, rfl, rfl, hbm⟩ := hrel
              have HBM := Lib.hid hbm
              clear hbm
              rcases Nat.lt_or_ge m hs.length with hml | hmg
              · obtain ⟨bh, oh, rfl, hbh, y1, y2⟩ := CRow.at2 (x := fun h : Ht => Value.int .i64 (h.a : Int)) (y := fun h : Ht => Value.int .i64 (h.f : Int)) ((HRH.out.below (bstep HB6.out HBM.out))) hml
                have n1 : (0 : Int) ≤ (m : Int) := by omega
                have n2 : (m : Int) < (hs.length : Int) := by omega
                by_cases hf : hs[m].f = j
                · obtain ⟨q1, q2, q3⟩ := kk_yes hs j m hml hf
                  have HQ1 := Lib.hid q1
                  rw [hf] at y2
                  rw [← q3] at y1
                  obtain ⟨bx, ox, rfl, hbx, z1⟩ := Row.at_ (xs := natI (picks hs j)) (by rw [show (natI (picks hs j)).length = (picks hs j).length by simp [natI]]; exact HRX.out.below HBM.out) (i := kkOf hs j m) (by simpa [natI] using q2)
                  have e1 : (natI (picks hs j)).getD (kkOf hs j m) 0 = (((picks hs j).getD (kkOf hs j m) 0 : Nat) : Int) := by
                    unfold natI
                    rw [List.getD_eq_getElem?_getD, List.getElem?_map, List.getD_eq_getElem?_getD, List.getElem?_eq_getElem q2]; rfl
                  rw [e1] at z1
                  have n3 : (0 : Int) ≤ (kkOf hs j m : Int) := by omega
                  have n4 : (kkOf hs j m : Int) < ((picks hs j).length : Int) := by omega
                  have n5 : decide (((picks hs j).length : Int) ≤ (kkOf hs j m : Int)) = false := decide_eq_false (by omega)
                  have n6 : decide ((picks hs j).length ≤ kkOf hs j m) = false := decide_eq_false (by omega)
                  have n7 : ((((picks hs j).getD (kkOf hs j m) 0 : Nat) : Int) != (((picks hs j).getD (kkOf hs j m) 0 : Nat) : Int)) = false := by simp
                  have n8 : ((j : Int) == (j : Int)) = true := by simp
                  have n9 : kkOf hs j m < (picks hs j).length := q2
                  clear e1 q1 q2 q3 hf
                  generalize (picks hs j).getD (kkOf hs j m) 0 = av at *
                  generalize (picks hs j).length = pl at *
                  generalize kkOf hs j m = k at *
                  go_wp2_with fail
                  go_quiet (fail)
                  go_wp2_with fail
                  exact ⟨⟨m + 1, hml, by go_num, by rw [HQ1.out]; go_num, (below_drewN HBM.out _)⟩, by simp [intOf]; omega⟩
                · have HQ1 := Lib.hid (kk_no hs j m hml hf)
                  have n8 : ((hs[m].f : Int) == (j : Int)) = false := by rw [beq_eq_false_iff_ne]; omega
                  have n7 := kk_le hs j m
                  clear hf y1
                  generalize hs[m].f = fv at *
                  generalize kkOf hs j m = k at *
                  go_wp2_with fail
                  exact ⟨⟨m + 1, hml, by go_num, by rw [HQ1.out], HBM.out⟩, by simp [intOf]; omega⟩
              · have n1 : decide ((m : Int) < (hs.length : Int)) = false := decide_eq_false (by omega)
                obtain rfl : m = hs.length := by omega
                rw [HKE.out]
                have n2 : (((picks hs j).length : Int) != ((picks hs j).length : Int)) = false := by simp
                have HB7 := Lib.hid (bstep HB6.out HBM.out)
                clear HB6 HBM HKE HKZ
                generalize (picks hs j).length = pl at *
                go_wp2_with fail
                exact ⟨⟨j + 1, hjl, by go_num, by rw [HCS.out]; go_num, HB7.out⟩, by simp [intOf]; omega⟩
          · have n1 : decide ((j : Int) < (o.length : Int)) = false := decide_eq_false (by omega)
            obtain rfl : j = o.length := by omega
            rw [HCA.out]
            have n2 : ((hs.length : Int) == (hs.length : Int)) = true := by simp
            go_wp2_with fail
            go_ret
            exact ⟨rfl, HJ5.out⟩
      · have j1 : decide ((i : Int) < (xss.length : Int)) = false := decide_eq_false (by omega)
        have j2 : decide (i < xss.length) = false := decide_eq_false (by omega)
        clear hlt
        go_wp2_with (at_builtin; refine wpList_copyStrs rfl (.tmp 60) _ rfl 9 _ 16 Try.underlying25 mstr_info rfl _ o rfl (SRow.of_own HO.out) (by omega) (by omega) ?_)
        intro v3 w3 ho3 hr3 hb3
        have HM := Lib.hid (many_any s v3 o w3 hr3 ho8 (fun x hx => ⟨(HS.out.1 x hx).1, by have := (HS.out.1 x hx).2; omega⟩) HS.out.2 (by omega))
        have HO3 := Lib.hid (own_below HO.out hb3)
        have HB3 := Lib.hid (bstep HB.out hb3)
        clear ho3 hr3 hb3 HO HB
        go_wp2_with fail
        refine HM.out.mono ?_
        rintro e w4 ⟨vh, l, fd, rfl, hfds, hown4, hb4⟩
        have hlen := hitsAll_len l fd s.data.toList s.size
        have hpk : ∀ j (hj : j < o.length), occ s o[j] = picks (hitsAll l fd s.data.toList s.size) j := fun j hj => by
          have h9 := (HS.out.1 o[j] (List.getElem_mem hj)).1
          have hl9 : o[j].data.toList.length = o[j].size := by simp
          rw [occ_occL s o[j] h9]
          have h8 := hits_pick hfds s.data.toList j (by rw [List.length_map]; exact hj) (by rw [List.getElem_map]; intro e; rw [e] at hl9; simp at hl9; omega)
          rw [List.getElem_map] at h8
          rw [← h8]
          unfold picks
          rw [show s.data.toList.length = s.size by simp]
        have hin : ∀ x ∈ hitsAll l fd s.data.toList s.size, x.f < o.length := fun x hx => by
          have := (hits_in hfds s.data.toList s.size x hx).1
          rwa [List.length_map] at this
        have HPK := Lib.hid hpk
        have HIN := Lib.hid hin
        generalize hitsAll l fd s.data.toList s.size = hs at *
        have HO4 := Lib.hid (own_below HO3.out hb4)
        have HB4 := Lib.hid (bstep HB3.out hb4)
        have HC4 := Lib.hid (CRow.of_own htc_len hown4)
        clear hpk hin hfds hown4 hb4 HO3 HB3 HM
        go_wp2_with fail
        refine (findSure_any _).mono ?_
        rintro e w5 ⟨rfl, hb5⟩
        have HO5 := Lib.hid (own_below HO4.out hb5)
        have HB5 := Lib.hid (bstep HB4.out hb5)
        have HC5 := Lib.hid (HC4.out.later hb5)
        clear HO4 HB4 HC4 hb5
        have hh6 : hs.length ≤ 600 := by omega
        obtain ⟨Ah, ch, rfl, hch1, hch2, hrh⟩ := id HC5.out
        unfold maxLen at hch2
        have HRH := Lib.hid hrh
        have HCZ := Lib.hid (cnt_zero hs)
        have HCA := Lib.hid (cnt_all hs o.length HIN.out)
        clear hrh HC5 HIN hlen
        go_wp2_with fail
        go_loopw [13, 14] (fun va vj W => ∃ j : Nat, j ≤ o.length ∧ vj = .int .i64 (j : Int) ∧ va = .int .i64 (cntOf hs j : Int) ∧ Below w5.heap.size w5 W) (fun _ vj _ => o.length - (intOf vj).toNat)
        case atStart => exact ⟨0, Nat.zero_le _, rfl, by rw [HCZ.out]; rfl, Below.refl _ _⟩
        case round =>
          obtain ⟨j, hj, rfl, rfl, hbj⟩ := hrel
          have HBJ := Lib.hid hbj
          have HJ5 := Lib.hid (bstep HB5.out hbj)
          clear hbj
          rcases Nat.lt_or_ge j o.length with hjl | hjg
          · obtain ⟨b', o', rfl, _, x1⟩ := SRow.at_ ((Reads.of_own HO5.out).below HBJ.out) hjl
            have m1 : (0 : Int) ≤ (j : Int) := by omega
            have m2 : (j : Int) < (o.length : Int) := by omega
            have hsz := HS.out.1 o[j] (List.getElem_mem hjl)
            have HA := Lib.hid (fun W => all_any s o[j] W (by omega) (by omega) hsz.1)
            have HPJ := Lib.hid (HPK.out j hjl)
            have HCS := Lib.hid (cnt_succ hs j)
            have hcl := cnt_le hs j
            have hpl := picks_le hs j
            clear hsz
            generalize o[j] = t at *
            generalize cntOf hs j = cn at *
            go_wp2_with fail
            refine (HA.out _).mono ?_
            rintro e w6 ⟨vx, rfl, hrx, hb6⟩
            rw [HPJ.out] at hrx
            obtain ⟨Ax, cx, rfl, hx1, hx2, _, hrx2⟩ := hrx
            have hxl : (natI (picks hs j)).length = (picks hs j).length := by simp [natI]
            rw [hxl] at hrx2 hx1
            rw [hxl]
            unfold maxLen at hx2
            have HRX := Lib.hid hrx2
            have HB6 := Lib.hid (bstep HBJ.out hb6)
            have HKZ := Lib.hid (kk_zero hs j)
            have HKE := Lib.hid (kk_end hs j)
            clear hxl hrx2 hb6 HA HPJ x1
            go_wp2_with fail
            go_loopw [17, 18] (fun vk vm W => ∃ m : Nat, m ≤ hs.length ∧ vm = .int .i64 (m : Int) ∧ vk = .int .i64 (kkOf hs j m : Int) ∧ Below w6.heap.size w6 W) (fun _ vm _ => hs.length - (intOf vm).toNat)
            case atStart => exact ⟨0, Nat.zero_le _, rfl, by rw [HKZ.out]; rfl, Below.refl _ _⟩
            case round =>
              obtain ⟨m, hm, rfl, rfl, hbm⟩ := hrel
              have HBM := Lib.hid hbm
              clear hbm
              rcases Nat.lt_or_ge m hs.length with hml | hmg
              · obtain ⟨bh, oh, rfl, hbh, y1, y2⟩ := CRow.at2 (x := fun h : Ht => Value.int .i64 (h.a : Int)) (y := fun h : Ht => Value.int .i64 (h.f : Int)) ((HRH.out.below (bstep HB6.out HBM.out))) hml
                have n1 : (0 : Int) ≤ (m : Int) := by omega
                have n2 : (m : Int) < (hs.length : Int) := by omega
                by_cases hf : hs[m].f = j
                · obtain ⟨q1, q2, q3⟩ := kk_yes hs j m hml hf
                  have HQ1 := Lib.hid q1
                  rw [hf] at y2
                  rw [← q3] at y1
                  obtain ⟨bx, ox, rfl, hbx, z1⟩ := Row.at_ (xs := natI (picks hs j)) (by rw [show (natI (picks hs j)).length = (picks hs j).length by simp [natI]]; exact HRX.out.below HBM.out) (i := kkOf hs j m) (by simpa [natI] using q2)
                  have e1 : (natI (picks hs j)).getD (kkOf hs j m) 0 = (((picks hs j).getD (kkOf hs j m) 0 : Nat) : Int) := by
                    unfold natI
                    rw [List.getD_eq_getElem?_getD, List.getElem?_map, List.getD_eq_getElem?_getD, List.getElem?_eq_getElem q2]; rfl
                  rw [e1] at z1
                  have n3 : (0 : Int) ≤ (kkOf hs j m : Int) := by omega
                  have n4 : (kkOf hs j m : Int) < ((picks hs j).length : Int) := by omega
                  have n5 : decide (((picks hs j).length : Int) ≤ (kkOf hs j m : Int)) = false := decide_eq_false (by omega)
                  have n6 : decide ((picks hs j).length ≤ kkOf hs j m) = false := decide_eq_false (by omega)
                  have n7 : ((((picks hs j).getD (kkOf hs j m) 0 : Nat) : Int) != (((picks hs j).getD (kkOf hs j m) 0 : Nat) : Int)) = false := by simp
                  have n8 : ((j : Int) == (j : Int)) = true := by simp
                  have n9 : kkOf hs j m < (picks hs j).length := q2
                  clear e1 q1 q2 q3 hf
                  generalize (picks hs j).getD (kkOf hs j m) 0 = av at *
                  generalize (picks hs j).length = pl at *
                  generalize kkOf hs j m = k at *
                  go_wp2_with fail
                  go_quiet (fail)
                  go_wp2_with fail
                  exact ⟨⟨m + 1, hml, by go_num, by rw [HQ1.out]; go_num, (below_drewN HBM.out _)⟩, by simp [intOf]; omega⟩
                · have HQ1 := Lib.hid (kk_no hs j m hml hf)
                  have n8 : ((hs[m].f : Int) == (j : Int)) = false := by rw [beq_eq_false_iff_ne]; omega
                  have n7 := kk_le hs j m
                  clear hf y1
                  generalize hs[m].f = fv at *
                  generalize kkOf hs j m = k at *
                  go_wp2_with fail
                  exact ⟨⟨m + 1, hml, by go_num, by rw [HQ1.out], HBM.out⟩, by simp [intOf]; omega⟩
              · have n1 : decide ((m : Int) < (hs.length : Int)) = false := decide_eq_false (by omega)
                obtain rfl : m = hs.length := by omega
                rw [HKE.out]
                have n2 : (((picks hs j).length : Int) != ((picks hs j).length : Int)) = false := by simp
                have HB7 := Lib.hid (bstep HB6.out HBM.out)
                clear HB6 HBM HKE HKZ
                generalize (picks hs j).length = pl at *
                go_wp2_with fail
                exact ⟨⟨j + 1, hjl, by go_num, by rw [HCS.out]; go_num, HB7.out⟩, by simp [intOf]; omega⟩
          · have n1 : decide ((j : Int) < (o.length : Int)) = false := decide_eq_false (by omega)
            obtain rfl : j = o.length := by omega
            rw [HCA.out]
            have n2 : ((hs.length : Int) == (hs.length : Int)) = true := by simp
            go_wp2_with fail
            go_ret
            exact ⟨rfl, HJ5.out⟩
end Go.Proofs.Ytacjckocjngfoaa
