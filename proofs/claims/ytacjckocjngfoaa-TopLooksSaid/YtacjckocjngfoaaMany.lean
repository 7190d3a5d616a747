/-
  The walk of find.Many: of at most eight finds, each of ten bytes at most.
-/
import Derived.Test.YtacjckocjngfoaaManyC
import Derived.Test.YtacjckocjngfoaaHitS
import Derived.Test.YtacjckocjngfoaaFind
import Derived.Test.YtacjckocjngfoaaOrdC
import Derived.BigQuiet
import Derived.Deep.QuietTactic
namespace Go.Proofs.Ytacjckocjngfoaa
open Go.RowKit
set_option linter.unusedVariables false
set_option linter.unusedSimpArgs false

def ManyPost (s : ByteArray) (fs : List ByteArray) (w : World) (e : Ending) (w' : World) : Prop :=
  ∃ (v : Value) (l : List (List UInt8)) (fd : List UInt8 → Int), e = .returned (.tuple #[v, .int .i64 0]) ∧ Fds l fd (fs.map fun x => x.data.toList) ∧
    w'.ownsRow w.heap.size 34 2 v (hitsAll l fd s.data.toList s.size).length (cellsOf htc (hitsAll l fd s.data.toList s.size)) ∧ Below w.heap.size w w'
set_option maxRecDepth 100000 in
set_option maxHeartbeats 8000000 in
theorem many_any (s : ByteArray) (v : Value) (fs : List ByteArray) (w : World) (hr : SRow w v fs) (hl : fs.length ≤ 8) (hs : ∀ t ∈ fs, 0 < t.size ∧ t.size ≤ 10) (hd : fs.Nodup) (hss : s.size ≤ 600) :
    Calls Try.prog 6 #[.string s, v] w (ManyPost s fs w) := by
  obtain ⟨A, c, rfl, hc1, hc2, hrd⟩ := id hr
  have HR := Lib.hid hr
  have HRD := Lib.hid hrd
  have HS := Lib.hid hs
  have HD := Lib.hid hd
  clear hr hrd hs hd
  have g1 : decide ((600 : Int) < (s.size : Int)) = false := decide_eq_false (by omega)
  have g2 : decide ((20 : Int) < (fs.length : Int)) = false := decide_eq_false (by omega)
  go_enter Try.func6, Try.ntmps6
  go_wp2_with fail
  clear g1 g2
  go_loopw [24] (fun vi W => ∃ (i : Nat), i ≤ fs.length ∧ vi = .int .i64 (i : Int) ∧ Below w.heap.size w W) (fun vi _ => fs.length - (intOf vi).toNat)
  case atStart => exact ⟨0, Nat.zero_le _, rfl, Below.refl _ _⟩
  case round =>
    obtain ⟨i, hi, rfl, hb⟩ := hrel
    have HB := Lib.hid hb
    clear hb
    rcases Nat.lt_or_ge i fs.length with hlt | hge
    · have k1 : (i : Int) < (fs.length : Int) := by omega
      have k2 : (0 : Int) ≤ (i : Int) := by omega
      obtain ⟨A', c', hsl, hrs⟩ := slice_head (HRD.out.below HB.out) hc1 i hi
      have hcell := SRow.at_ (HRD.out.below HB.out) hlt
      have hsz := HS.out fs[i] (List.getElem_mem hlt)
      have hnx : fs[i] ∉ fs.take i := fun hm => by
        obtain ⟨j, hj, e⟩ := List.mem_iff_getElem.1 hm
        rw [List.length_take] at hj
        rw [List.getElem_take] at e
        have := List.pairwise_iff_getElem.1 HD.out j i (by omega) hlt (by omega)
        exact this e
      have hlen : (fs.take i).length = i := by rw [List.length_take]; omega
      generalize fs[i] = t at *
      have HF := Lib.hid (fun W => fault_any s t W hss (by omega) hsz.1)
      have HC := Lib.hid (containsS_none A' c' (fs.take i) t wr w.heap.size hrs (by omega) hnx)
      rw [hlen] at HC
      obtain ⟨b, o, rfl, hb1, hc0⟩ := hcell
      clear hrs hnx hlen
      go_wp2_with fail
      refine (HF.out _).mono ?_
      rintro e w1 ⟨rfl, rfl⟩
      clear HF
      go_wp2_with fail
      refine HC.out.mono ?_
      rintro e w1 ⟨rfl, hb1'⟩
      have HB1 := Lib.hid (bstep HB.out hb1')
      clear HC hb1' hsl
      go_wp2_with fail
      exact ⟨⟨i + 1, hlt, by go_num, HB1.out⟩, by simp [intOf]; omega⟩
    · have k1 : decide ((i : Int) < (fs.length : Int)) = false := decide_eq_false (by omega)
      have HM := Lib.hid (machine_any (.slice A fs.length c) fs wr (HR.out.later HB.out) hl (fun t ht => (HS.out t ht).2) HD.out)
      clear HRD
      go_wp2_with fail
      refine HM.out.mono ?_
      rintro e w1 ⟨n, l, S, M, fd, bk, rfl, hblt⟩
      have HBT := Lib.hid hblt
      have HBB := Lib.hid (bstep HB.out hblt.b)
      have hbs := hblt.b.size
      have hwb := HB.out.size
      clear HM hblt
      go_wp2_with fail
      go_loopw [9, 10, 45] (fun vo vat vi W => ∃ i : Nat, i ≤ s.size ∧ vi = .int .i64 (i : Int) ∧ vat = .pointer (some ⟨S (lsuf l (s.data.toList.take i)), 0, none⟩) ∧ W.ownsRow w1.heap.size 34 2 vo (hitsAll l fd s.data.toList i).length (cellsOf htc (hitsAll l fd s.data.toList i)) ∧ Below w1.heap.size w1 W) (fun _ _ vi _ => s.size - (intOf vi).toNat)
      case atStart => exact ⟨0, Nat.zero_le _, rfl, rfl, World.ownsRow_nil _ _ _ _, Below.refl _ _⟩
      case round =>
        obtain ⟨i, hi, rfl, rfl, ho, hb⟩ := hrel
        have HO := Lib.hid ho
        have HW := Lib.hid hb
        clear ho hb
        have HM1 := Lib.hid (HBT.out.m.below HW.out (fun u hu => HBT.out.m.lt hu))
        rcases Nat.lt_or_ge i s.size with hlt | hge
        · have j1 : (i : Int) < (s.size : Int) := by omega
          have j2 : (0 : Int) ≤ (i : Int) := by omega
          have HTK := Lib.hid (take_snoc s i hlt)
          have HSL : Hid (s.data.toList.length = s.size) := Lib.hid (by simp)
          generalize ht0 : s.data.toList.take i = t0 at *
          have ST := Lib.hid (step_any _ _ n l S M fd bk HM1.out HBT.out.t (lsuf l t0) (lsuf_mem HBT.out.t.nil _) s[i] (fun v hv _ => HBT.out.back v hv))
          rw [lsuf_snoc HBT.out.t, ← HTK.out] at ST
          have HASC := Lib.hid (hitsM_asc (l := l) (fd := fd) s.data.toList (i + 1) (by rw [HSL.out]; exact hlt))
          have hlsl := lsuf_len l (s.data.toList.take (i + 1))
          have hlsm := lsuf_mem HBT.out.t.nil (s.data.toList.take (i + 1))
          have hlsk : (s.data.toList.take (i + 1)).length ≤ i + 1 := by rw [List.length_take]; omega
          have HH : Hid (hitsM l fd s.data.toList (i + 1) = hitsOf fd (i + 1) (chain l 10 (lsuf l (s.data.toList.take (i + 1))))) := Lib.hid rfl
          generalize hxe : lsuf l (s.data.toList.take (i + 1)) = x at *
          have HX := Lib.hid hxe
          clear hxe
          clear ht0
          have hx10 := HBT.out.len x hlsm
          have hxi : x.length ≤ i + 1 := by omega
          clear hlsl hlsk HSL
          go_wp2_with fail
          refine ST.out.mono ?_
          rintro e w2 ⟨rfl, rfl⟩
          clear ST
          go_wp2_with fail
          go_loopw [12, 13] (fun vh vs W => ∃ (u : List UInt8) (dn : List Ht), u ∈ l ∧ u.length ≤ i + 1 ∧ vs = .pointer (some ⟨S u, 0, none⟩) ∧ W.ownsRow w2.heap.size 34 2 vh dn.length (cellsOf htc dn) ∧ dn ++ hitsOf fd (i + 1) (chain l 10 u) = hitsM l fd s.data.toList (i + 1) ∧ dn.length + u.length ≤ 10 ∧ Below w2.heap.size w2 W) (fun _ vs W => lng W vs)
          case atStart => exact ⟨x, [], hlsm, hxi, rfl, World.ownsRow_nil _ _ _ _, by rw [HH.out]; rfl, by simpa using hx10, Below.refl _ _⟩
          case round =>
            obtain ⟨u, dn, hu, hui, rfl, ho, hdn, hln, hb⟩ := hrel
            have HO2 := Lib.hid ho
            have HDN := Lib.hid hdn
            have HB2 := Lib.hid hb
            have hm2 := HM1.out.below hb (fun u hu => HM1.out.lt hu)
            have HM2 := Lib.hid hm2
            have c1 : wr.cell? ⟨S u, 1, none⟩ = some (bk u) := by rw [(hm2.blk u hu).cell 1]; rfl
            have c2 : wr.cell? ⟨S u, 2, none⟩ = some (.int .i64 (fd u)) := by rw [(hm2.blk u hu).cell 2]; rfl
            have c3 : wr.cell? ⟨S u, 3, none⟩ = some (.int .i64 (u.length : Int)) := by rw [(hm2.blk u hu).cell 3]; rfl
            rw [HBT.out.back u hu] at c1
            clear ho hdn hb hm2
            rcases Nat.eq_zero_or_pos u.length with h0 | h0
            · have k0 : decide ((0 : Int) < (u.length : Int)) = false := decide_eq_false (by omega)
              have k0' : decide (0 < u.length) = false := decide_eq_false (by omega)
              have hu0 := List.length_eq_zero_iff.1 h0
              have HDF : Hid (dn = hitsM l fd s.data.toList (i + 1)) := Lib.hid (by have := HDN.out; rw [hu0, hits_end, List.append_nil] at this; exact this)
              clear hu0
              go_wp2_with fail
              rw [HDF.out] at HO2
              have SO := Lib.hid (hitSort_own w2.heap.size _ _ wr HO2.out (by have := hitsM_len l fd s.data.toList (i + 1); omega) HASC.out)
              clear HDF HDN hln c1 c2 c3 k0 k0' h0 HM2 HASC HO2
              refine SO.out.mono ?_
              rintro e w3 ⟨rfl, ho3, hb3⟩
              have hb03 := HB2.out.trans hb3
              have HO3 := Lib.hid ho3
              have HB3 := Lib.hid hb03
              clear SO ho3 hb3 hb03 HB2
              obtain ⟨A3, c3, rfl, hc31, hc32⟩ := own_slice HO3.out
              have hml := hitsM_len l fd s.data.toList (i + 1)
              have hal := hitsAll_len l fd s.data.toList i
              have HAS := Lib.hid (hitsAll_succ l fd s.data.toList i)
              have HBA := Lib.hid (bstep HW.out HB3.out)
              have hbz := HBA.out.size
              have HOW := Lib.hid (own_below HO.out HB3.out)
              clear HM1 HB3 HO
              go_wp2_with (at_builtin; refine wpList_append_w rfl (.tmp 85) (.tmp 86) _ rfl w1.heap.size 34 _ 2 16 Try.underlying26 hit_info rfl (by decide) _ _ _ rfl HOW.out w3.heap.size A3 _ c3 _ rfl (Reads.of_own HO3.out) (htc_all _) (by unfold maxLen; omega) (by omega) hbz ?_)
              intro v4 w4 h41 h42 h43
              have hb4 : Below w1.heap.size w1 w4 := HBA.out.grown h42 hbz (fun q hq => (HOW.out.lt q hq).1)
              have HB4 := Lib.hid hb4
              have HO4 := Lib.hid h41
              clear h41 h42 h43 hb4 HBA HOW HO3
              go_wp2_with fail
              refine ⟨⟨i + 1, hlt, by go_num, by rw [HX.out], ?_, HB4.out⟩, by simp [intOf]; omega⟩
              rw [HAS.out, List.length_append, cellsOf_append]
              exact HO4.out
            · have k0 : (0 : Int) < (u.length : Int) := by omega
              have hpm := lsuf_mem HBT.out.t.nil u.tail
              have hune : u ≠ [] := fun e => by rw [e] at h0; cases h0
              have hpl := psuf_len l hune
              have HST := Lib.hid (hits_step l fd (i + 1) hune (by omega))
              have hmx : lng wr (.pointer (some ⟨S (psuf l u), 0, none⟩)) < lng wr (.pointer (some ⟨S u, 0, none⟩)) := by
                rw [HM2.out.lng_eq hu, HM2.out.lng_eq (u := psuf l u) hpm]; exact hpl
              have HMX := Lib.hid hmx
              clear hmx hune
              rcases HBT.out.fd_ u hu with hf | ⟨j, hj, hf, _⟩
              · have kf : decide ((0 : Int) ≤ fd u) = false := decide_eq_false (by omega)
                have HF : Hid (dn ++ hitsOf fd (i + 1) (chain l 10 (psuf l u)) = hitsM l fd s.data.toList (i + 1)) := Lib.hid (by
                  have := HDN.out
                  rw [HST.out, if_neg (by omega), List.nil_append] at this
                  exact this)
                rw [hf] at c2
                clear HST hf kf
                go_wp2_with fail
                exact ⟨⟨psuf l u, dn, hpm, by omega, rfl, HO2.out, HF.out, by omega, HB2.out⟩, HMX.out⟩
              · have kf : (0 : Int) ≤ (j : Int) := by omega
                have hjl : j < fs.length := by have := hj; omega
                have hmt : u.length ≤ i + 1 := hui
                have HF : Hid ((dn ++ [(⟨i + 1 - u.length, j⟩ : Ht)]) ++ hitsOf fd (i + 1) (chain l 10 (psuf l u)) = hitsM l fd s.data.toList (i + 1)) := Lib.hid (by
                  have := HDN.out
                  rw [HST.out, if_pos (by omega), hf, Int.toNat_natCast] at this
                  rw [List.append_assoc]
                  exact this)
                rw [hf] at c2
                have hut := (HM1.out.lt hu).1
                have HC : Hid (w2.cell? ⟨S u, 2, none⟩ = some (.int .i64 (j : Int)) ∧ w2.cell? ⟨S u, 3, none⟩ = some (.int .i64 (u.length : Int)) ∧ w2.cell? ⟨S u, 1, none⟩ = some (.pointer (some ⟨S (psuf l u), 0, none⟩))) := Lib.hid (by
                  refine ⟨?_, ?_, ?_⟩
                  · rw [(HM1.out.blk u hu).cell 2, ← hf]; rfl
                  · rw [(HM1.out.blk u hu).cell 3]; rfl
                  · rw [← HBT.out.back u hu, (HM1.out.blk u hu).cell 1]; rfl)
                have m1 : (0 : Int) ≤ (i : Int) := by omega
                have m2 : (i : Int) ≤ 600 := by omega
                have m3 : (u.length : Int) ≤ 10 := by omega
                clear HST hf HDN
                go_wp2_with fail
                have hw1 : IntKind.i64.wrap ((i : Int) + 1) = (i : Int) + 1 := IntWalk.i64_in _ (by omega)
                have hw2 : IntKind.i64.wrap ((i : Int) + 1 - (u.length : Int)) = ((i + 1 - u.length : Nat) : Int) := by rw [IntWalk.i64_in _ (by omega)]; omega
                refine wp_region_ph [([0, 1, 2, 3, 4, 5, 6, 7, 8, 9, 10, 11, 12], [13, 14]), ([15], [])] (Below w2.heap.size w2) (by kernel_rfl) (by kernel_rfl) (fun _ _ h1 h2 => bstep h1 h2) HB2.out ?_
                intro ι F hne hF W0 hW0 hI0
                have c2F : ∀ i', (F i').cell? ⟨S u, 2, none⟩ = some (.int .i64 (j : Int)) := fun i' => ((hF i').cell (p := ⟨S u, 2, none⟩) hut).trans HC.out.1
                have c3F : ∀ i', (F i').cell? ⟨S u, 3, none⟩ = some (.int .i64 (u.length : Int)) := fun i' => ((hF i').cell (p := ⟨S u, 3, none⟩) hut).trans HC.out.2.1
                (refine wpPh_cons ?_; simp only [pickOps, List.getElem?_cons_succ, List.getElem?_cons_zero])
                repeat (refine wpB_step (fun K hK => ?_); go_simp; first | (refine hK _ ?_; clear hK K) | (apply Exists.intro; refine ⟨fun _ => ?_, hK _ ?_⟩; (fail); clear hK K))
                refine wpB_nil ?_
                intro w5 hw5 hI5
                (refine wpRB_step (fun K hK => ?_); go_simp; refine hK _ _ ⟨hI5.alloc hI5.size _, ?_⟩; clear hK K)
                intro w6 hw6 hI6
                clear hw1 hw2
                have hr6 := (Reads.new w5 [.int .i64 ((i + 1 - u.length : Nat) : Int), .int .i64 (j : Int)] 34 2 rfl).below hw6
                have hb6 : Below wr.heap.size wr w6 := bstep (bstep hW0 hw5) (((Below.refl _ _).alloc (Nat.le_refl _) _).trans (hw6.mono (by simp)))
                have hO6 := own_below HO2.out hb6
                refine wpRB_append_any rfl (.tmp 68) (.tmp 81) _ rfl w2.heap.size 34 _ 2 16 Try.underlying26 hit_info rfl (by decide) _ dn.length (cellsOf htc dn) rfl hO6 _ (some ⟨w5.heap.size, 0, none⟩) 1 1 [.int .i64 ((i + 1 - u.length : Nat) : Int), .int .i64 (j : Int)] rfl hr6 (by simp [Value.oneCell']) (by unfold maxLen; omega) (by omega) hI6.size ?_
                intro v7 w7 h71 h72 h73
                have hI7 : Below w2.heap.size w2 w7 := hI6.grown h72 hI6.size (fun q hq => (hO6.lt q hq).1)
                refine ⟨hI7, ?_⟩
                intro w8 hw8 hI8
                have e1 : cellsOf htc (dn ++ [(⟨i + 1 - u.length, j⟩ : Ht)]) = cellsOf htc dn ++ [.int .i64 ((i + 1 - u.length : Nat) : Int), .int .i64 (j : Int)] := by
                  rw [cellsOf_snoc]; rfl
                have ho8 : w8.ownsRow w2.heap.size 34 2 v7 (dn ++ [(⟨i + 1 - u.length, j⟩ : Ht)]).length (cellsOf htc (dn ++ [(⟨i + 1 - u.length, j⟩ : Ht)])) := by
                  rw [e1, List.length_append, List.length_singleton]; exact own_below h71 hw8
                have HO8 := Lib.hid ho8
                have HI8 := Lib.hid hI8
                clear h71 h72 h73 hI7 hw8 e1 ho8 hO6 hr6 hb6 hI6 hw6 hI5 hw5 hI8 c2F c3F hF hW0 hI0
                refine wpRB_nil ?_
                (refine wpPh_cons ?_; simp only [pickOps, List.getElem?_cons_succ, List.getElem?_cons_zero])
                repeat (refine wpB_step (fun K hK => ?_); go_simp; first | (refine hK _ ?_; clear hK K) | (apply Exists.intro; refine ⟨fun _ => ?_, hK _ ?_⟩; (fail); clear hK K))
                refine wpB_nil ?_
                intro w9 hw9 hI9
                refine wpRB_nil ?_
                refine wpPh_nil ?_
                have HO9 := Lib.hid (own_below HO8.out hw9)
                have HI9 := Lib.hid hI9
                have c19 : w9.cell? ⟨S u, 1, none⟩ = some (.pointer (some ⟨S (psuf l u), 0, none⟩)) := (hI9.cell (p := ⟨S u, 1, none⟩) hut).trans HC.out.2.2
                have HMX2 : Hid (lng w9 (.pointer (some ⟨S (psuf l u), 0, none⟩)) < lng wr (.pointer (some ⟨S u, 0, none⟩))) := Lib.hid (by
                  rw [HM2.out.lng_eq hu, (HM1.out.below hI9 (fun u hu => HM1.out.lt hu)).lng_eq (u := psuf l u) hpm]; exact hpl)
                clear HO8 HI8 hw9 hI9 c1 c2 c3
                go_wp2_with fail
                exact ⟨⟨psuf l u, dn ++ [(⟨i + 1 - u.length, j⟩ : Ht)], hpm, by omega, rfl, HO9.out, HF.out, by rw [List.length_append, List.length_singleton]; omega, HI9.out⟩, HMX2.out⟩
        · have j1 : decide ((i : Int) < (s.size : Int)) = false := decide_eq_false (by omega)
          obtain rfl : i = s.size := by omega
          have HFD := Lib.hid HBT.out.fds
          have HWW := Lib.hid (bstep HBB.out HW.out)
          clear HM1 HBT HBB
          go_wp2_with fail
          go_ret2
          exact ⟨_, l, fd, rfl, HFD.out, own_mono HO.out (by omega), HWW.out⟩
end Go.Proofs.Ytacjckocjngfoaa
