/-
  The walks of the closure of words.Update, and of words.Each with it.
-/
import Derived.Test.YtpgjjnbepkofdaaWrdE
namespace Go.Proofs.Ytpgjjnbepkofdaa
open Go.RowKit Go.WideMaps Go.Maps Go.ChangeShapes Go.ChangeMaps
set_option linter.unusedVariables false
set_option linter.unusedSimpArgs false

set_option maxRecDepth 100000 in
set_option maxHeartbeats 4000000 in
theorem upd2_any (bv b base n : Nat) (g : ByteArray → List Int) (s : ByteArray) (p : Int) (w : World) (h : TabSt w bv b base n g) (hs : s.size ≤ maxLen) (hn : n ≤ 1000000) (hp : 0 ≤ p ∧ p ≤ 1000000000) :
    Calls Try.prog 46 #[.string s, .int .i64 p, .pointer (some ⟨bv, 0, none⟩)] w fun e w' => e = .returned (.tuple #[]) ∧ TabSt w' bv b base (n + 1) (noted g s p) ∧ ∀ B, B ≤ b → Below B w w' := by
  obtain ⟨hv, ⟨D, hown, hD⟩, hlow⟩ := h
  obtain ⟨hb1, hb2⟩ := Tbl.lt ⟨D, hown, hD⟩
  have hkey : keyOf Try.prog 9 (.string s) = some (.string s.data.toList) := keyOf_string_mk Try.underlying9 hs
  obtain ⟨v, zs, hrun, hat, hoi, hzl, hback⟩ := look_all hown table_law Try.underlying76 zeroInts (by unfold maxLen; omega) hkey
  have hzg : zs = g s := datI_eq hoi ((hD s hs).1.symm.trans hat)
  obtain ⟨i0, hi, hz0, hz1, hz2⟩ := info_parts int_info2
  have c0 := hv.cell 0
  have hvl := hv.lt
  have hbvb : bv ≠ b := by
    obtain ⟨es, clock, hb, _⟩ := id hown
    rintro rfl
    unfold Blk at hv
    rw [hb] at hv
    cases hv
  have HR := Lib.hid hrun
  have HAT := Lib.hid hat
  have HOI := Lib.hid hoi
  have HB := Lib.hid hback
  have HD := Lib.hid hD
  have HM := Lib.hid (ownsGroups_isMap hown)
  have HZG := Lib.hid hzg
  have HV := Lib.hid hv
  clear hrun hat hoi hback hD hown hzg hv hkey
  go_enter Try.func46, Try.ntmps46
  go_wp2_with fail
  refine wp_region_mix 6 2 (Still w bv b) (by kernel_rfl) (by kernel_rfl) (fun _ _ h1 h2 => h1.below h2 (Still0 h1 hvl hb1).1 (Still0 h1 hvl hb1).2) ⟨rfl, rfl⟩ ?_
  intro ι F hne hF
  have c0F : ∀ i, (F i).cell? ⟨bv, 0, none⟩ = some (.map (some b)) := fun i => by
    have : Blk (F i) bv 76 #[.map (some b)] := (hF i).1.trans HV.out
    exact this.cell 0
  have lkF : ∀ i, (Instr.lookup 76 (.map (some b)) (.string s) false).run Try.prog (F i) = .ok v (F i) := fun i => HR.out (F i) (hF i).2
  simp only [List.take_succ_cons, List.take_zero, List.drop_succ_cons, List.drop_zero]
  repeat (refine wpB_step (fun K hK => ?_); go_simp; first | (refine hK _ ?_; clear hK K) | (apply Exists.intro; refine ⟨fun _ => ?_, hK _ ?_⟩; (fail); clear hK K))
  refine wpB_nil ?_
  intro w2 hw2 hI2
  clear c0F lkF hF c0
  have hs2 := Still0 hI2 hvl hb1
  (refine wpR_step (fun K hK => ?_); go_simp; refine hK _ _ ⟨hI2.below ((Below.refl _ _).alloc (Nat.le_refl _) _) hs2.1 hs2.2, ?_⟩; clear hK K)
  intro w3 hw3 hI3
  have hb3 : Below w.heap.size w w3 := bstep (hw2.alloc hw2.size _) hw3
  have ho3 := own_below HOI.out.1 hb3
  have hr3 := (Reads.new w2 [.int .i64 p] 3 1 rfl).below hw3
  have hlow3 : base ≤ w3.heap.size := Nat.le_trans hlow hb3.size
  clear hw3 hw2 hI2 hs2
  refine wpR_append_w rfl (.tmp 9) (.tmp 11) _ rfl base 3 _ 1 8 Try.underlying22 int_info2 rfl (by decide) v zs.length (zs.map (Value.int .i64)) rfl ho3 _ (some ⟨w2.heap.size, 0, none⟩) 1 1 [.int .i64 p] rfl hr3 (by simp [Value.oneCell']) (by unfold maxLen; omega) (by omega) hlow3 ?_
  intro v' w4 ho4 hg4 hat4
  have hs3 := Still0 hI3 hvl hb1
  have hbv : some bv ≠ v.ownBlock := fun e => own_blk_ne HOI.out.1 HV.out (by decide) e.symm
  have hbb : some b ≠ v.ownBlock := fun e => by have := (HOI.out.1.lt b e.symm).1; omega
  have hI4 := hI3.grown hg4 hs3.1 hs3.2 hbv hbb
  refine ⟨hI4, ?_⟩
  intro w5 hw5 hI5
  have ho5 := own_below ho4 hw5
  have hg5 := ((grown_of_below hb3 v.ownBlock).trans hg4).trans (grown_of_below hw5 v.ownBlock)
  have hwf : (Lit.int .i64 p).wf = true := WalkArith.wf_i64 (by omega)
  have hoi5 : w5.ownsInts base 3 .i64 v' (zs ++ [p]) := by
    refine ⟨by simpa using ho5, fun z hz => ?_⟩
    rcases List.mem_append.1 hz with hz | hz
    · exact HOI.out.2 z hz
    · rw [List.mem_singleton.1 hz]; exact hwf
  have hloc : v'.ownBlock = v.ownBlock ∨ ∃ q, v'.ownBlock = some q ∧ w.heap.size ≤ q := hat4.imp id (fun e => ⟨_, e, hb3.size⟩)
  have HG5 := Lib.hid hg5
  have HOI5 := Lib.hid hoi5
  have HLOC := Lib.hid hloc
  have HI5 := Lib.hid hI5
  clear ho4 hg4 hat4 hI4 hw5 hI5 ho5 hg5 hoi5 hloc hb3 ho3 hr3 hI3 hs3 hwf
  refine wpR_nil ?_
  go_wp2_with (at_mapUpdate; refine wpList_mapUpdate_back _ rfl _ _ _ 76 rfl HB.out rfl rfl rfl HG5.out HOI5.out (by simp; omega) HLOC.out ?_)
  intro w6 hown6 hg6
  have BV6 : Blk w6 bv 76 #[.map (some b)] := (hg6.block bv (Nat.lt_of_lt_of_le hvl HG5.out.size) (fun e => hbvb (Option.some.inj e))).trans (HI5.out.1.trans HV.out)
  have TB6 := Tbl.put HD.out HM.out hs (show zs ++ [p] ≠ [] by simp) HOI5.out hown6
  rw [HZG.out] at TB6
  have BE6 : ∀ B, B ≤ b → Below B w w6 := fun B hB => (Below.refl B w).groups HOI.out HG5.out hg6 (by omega) (by omega) hB
  have LO6 : base ≤ w6.heap.size := Nat.le_trans hlow (Nat.le_trans HG5.out.size hg6.size)
  have H6 := Lib.hid (And.intro (TabSt.mk (g := noted g s p) BV6 TB6 LO6) BE6)
  clear hown6 hg6 BV6 TB6 BE6 LO6
  go_wp2_with fail
  go_end0
  exact ⟨rfl, H6.out.1, H6.out.2⟩
set_option maxRecDepth 100000 in
set_option maxHeartbeats 4000000 in
theorem each2_any (text : ByteArray) (lo hi bv b base n : Nat) (g : ByteArray → List Int) (w : World) (h : TabSt w bv b base n g) (hlh : lo ≤ hi) (hhi : hi ≤ text.size) (htx : text.size ≤ 100000) (hn : n ≤ 500000) :
    Calls Try.prog 45 #[.string text, .int .i64 (lo : Int), .int .i64 (hi : Int), .func (.func 46) #[] #[.pointer (some ⟨bv, 0, none⟩)]] w fun e w' => e = .returned (.tuple #[]) ∧ (∃ n', n' ≤ n + hi + 1 ∧ TabSt w' bv b base n' (noteAll g (wordsIn text.data.toList lo hi))) ∧ ∀ B, B ≤ b → Below B w w' := by
  have hlen : text.data.toList.length = text.size := by simp
  have HLEN := Lib.hid hlen
  have H0 := Lib.hid h
  clear hlen h
  obtain ⟨G, hG⟩ : ∃ G, noteAll g (wordsIn text.data.toList lo hi) = G := ⟨_, rfl⟩
  have HG := Lib.hid hG
  rw [hG]
  clear hG
  go_enter Try.func45, Try.ntmps45
  go_wp2_with fail
  go_loopw [8] (fun v W => ∃ (k m : Nat) (g1 : ByteArray → List Int), lo ≤ k ∧ k ≤ hi + 1 ∧ m ≤ n + k ∧ v = .int .i64 (k : Int) ∧ TabSt W bv b base m g1 ∧ noteAll g1 (wdsA ((text.data.toList.take hi).drop k) [] k) = G ∧ ∀ B, B ≤ b → Below B w W) (fun v _ => hi + 1 - (intOf v).toNat)
  case atStart => exact ⟨lo, n, g, Nat.le_refl _, by omega, by omega, rfl, H0.out, HG.out, fun B _ => Below.refl _ _⟩
  case round =>
    obtain ⟨k, m, g1, hk1, hk2, hm, rfl, ht, hg, hbe⟩ := hrel
    have HT := Lib.hid ht
    have HGG := Lib.hid hg
    have HBE := Lib.hid hbe
    clear ht hg hbe
    rcases Nat.lt_or_ge k hi with hk | hk
    · have P1 := Lib.hid (fun c W => part1_any c W)
      go_wp2_with fail
      go_loopw [8] (fun v W => W = wr ∧ ∃ j : Nat, k ≤ j ∧ j ≤ hi ∧ v = .int .i64 (j : Int) ∧ wdsA ((text.data.toList.take hi).drop j) ((text.data.toList.take j).drop k) k = wdsA ((text.data.toList.take hi).drop k) [] k) (fun v _ => hi - (intOf v).toNat)
      case atStart => exact ⟨rfl, k, Nat.le_refl _, by omega, rfl, by rw [show (text.data.toList.take k).drop k = [] from List.drop_eq_nil_of_le (by rw [List.length_take]; omega)]⟩
      case round =>
        obtain ⟨rfl, j, hj1, hj2, rfl, hj3⟩ := hrel
        have HJ := Lib.hid hj3
        clear hj3
        rcases Nat.lt_or_ge j hi with hj | hj
        · have hjs : (j : Int) < (text.size : Int) := by omega
          have hjn : j < text.size := by omega
          cases hpb : partB text[j] with
          | true =>
            have P2 := Lib.hid (P1.out text[j])
            rw [hpb] at P2
            have HPB := Lib.hid hpb
            clear hpb
            go_wp2_with fail
            refine (P2.out _).mono ?_
            rintro e w1 ⟨rfl, rfl⟩
            go_wp2_with fail
            exact ⟨⟨trivial, j + 1, by omega, by omega, by go_num, by rw [← HJ.out]; exact (wds_step _ k j hi hj1 hj (by rw [HLEN.out]; exact hhi) (by rw [bytes_at text j hjn]; exact HPB.out)).symm⟩, by simp [intOf]; omega⟩
          | false =>
            have P2 := Lib.hid (P1.out text[j])
            rw [hpb] at P2
            have HST := Lib.hid (wds_stop text.data.toList k j hi hj1 hj2 (by rw [HLEN.out]; exact hhi) (fun _ => by rw [bytes_at text j hjn]; exact hpb))
            clear hpb
            go_wp2_with fail
            refine (P2.out _).mono ?_
            rintro e w1 ⟨rfl, rfl⟩
            have hcl : ((text.data.toList.take j).drop k).length = j - k := by rw [List.length_drop, List.length_take, HLEN.out]; omega
            have HCL := Lib.hid hcl
            clear hcl
            rcases Nat.lt_or_ge k j with hkj | hkj
            · rcases Nat.lt_or_ge 12 (j - k) with h12 | h12
              · have q1 : (k : Int) < (j : Int) := by omega
                have q2 : decide ((j : Int) - (k : Int) ≤ 12) = false := decide_eq_false (by omega)
                go_wp2_with fail
                exact ⟨⟨j + 1, m, g1, by omega, by omega, by omega, by go_num, HT.out, by rw [← HGG.out, ← HJ.out, HST.out, noteAll_skip _ _ _ _ (fun h => by rw [HCL.out] at h; omega)], HBE.out⟩, by simp [intOf]; omega⟩
              · have q1 : (k : Int) < (j : Int) := by omega
                have q2 : (j : Int) - (k : Int) ≤ 12 := by omega
                have hsz : (text.extract k j).size = j - k := by rw [ByteArray.size_extract]; omega
                have CC := Lib.hid (upd2_any bv b base m g1 (text.extract k j) (k : Int) wr HT.out (by rw [hsz]; unfold maxLen; omega) (by omega) (by omega))
                have HSZ := Lib.hid hsz
                clear hsz
                go_wp2_with fail
                refine CC.out.mono ?_
                rintro e w2 ⟨rfl, ht2, hb2⟩
                have HT2 := Lib.hid ht2
                have HBE2 := Lib.hid (fun B (hB : B ≤ b) => (HBE.out B hB).trans (hb2 B hB))
                clear ht2 hb2 CC
                go_wp2_with fail
                exact ⟨⟨j + 1, m + 1, noted g1 (text.extract k j) (k : Int), by omega, by omega, by omega, by go_num, HT2.out, by rw [← HGG.out, ← HJ.out, HST.out, ← bytes_cut text k j, noteAll_emit _ _ _ _ (fun h => by rw [bytes_cut] at h; have := HCL.out; rw [h] at this; simp at this; omega) (by rw [HSZ.out]; exact h12)], HBE2.out⟩, by simp [intOf]; omega⟩
            · have q1 : decide ((k : Int) < (j : Int)) = false := decide_eq_false (by omega)
              go_wp2_with fail
              all_goals exact ⟨⟨j + 1, m, g1, by omega, by omega, by omega, by go_num, HT.out, by rw [← HGG.out, ← HJ.out, HST.out, noteAll_skip _ _ _ _ (fun h => h.1 (List.eq_nil_of_length_eq_zero (by rw [HCL.out]; omega)))], HBE.out⟩, by simp [intOf]; omega⟩
        · have HST := Lib.hid (wds_stop text.data.toList k j hi hj1 hj2 (by rw [HLEN.out]; exact hhi) (fun h => absurd h (by omega)))
          have hjs : decide ((j : Int) < (hi : Int)) = false := decide_eq_false (by omega)
          have hcl : ((text.data.toList.take j).drop k).length = j - k := by rw [List.length_drop, List.length_take, HLEN.out]; omega
          have HCL := Lib.hid hcl
          clear hcl
          rcases Nat.lt_or_ge k j with hkj | hkj
          · rcases Nat.lt_or_ge 12 (j - k) with h12 | h12
            · have q1 : (k : Int) < (j : Int) := by omega
              have q2 : decide ((j : Int) - (k : Int) ≤ 12) = false := decide_eq_false (by omega)
              go_wp2_with fail
              exact ⟨⟨j + 1, m, g1, by omega, by omega, by omega, by go_num, HT.out, by rw [← HGG.out, ← HJ.out, HST.out, noteAll_skip _ _ _ _ (fun h => by rw [HCL.out] at h; omega)], HBE.out⟩, by simp [intOf]; omega⟩
            · have q1 : (k : Int) < (j : Int) := by omega
              have q2 : (j : Int) - (k : Int) ≤ 12 := by omega
              have hsz : (text.extract k j).size = j - k := by rw [ByteArray.size_extract]; omega
              have CC := Lib.hid (upd2_any bv b base m g1 (text.extract k j) (k : Int) wr HT.out (by rw [hsz]; unfold maxLen; omega) (by omega) (by omega))
              have HSZ := Lib.hid hsz
              clear hsz
              go_wp2_with fail
              refine CC.out.mono ?_
              rintro e w2 ⟨rfl, ht2, hb2⟩
              have HT2 := Lib.hid ht2
              have HBE2 := Lib.hid (fun B (hB : B ≤ b) => (HBE.out B hB).trans (hb2 B hB))
              clear ht2 hb2 CC
              go_wp2_with fail
              exact ⟨⟨j + 1, m + 1, noted g1 (text.extract k j) (k : Int), by omega, by omega, by omega, by go_num, HT2.out, by rw [← HGG.out, ← HJ.out, HST.out, ← bytes_cut text k j, noteAll_emit _ _ _ _ (fun h => by rw [bytes_cut] at h; have := HCL.out; rw [h] at this; simp at this; omega) (by rw [HSZ.out]; exact h12)], HBE2.out⟩, by simp [intOf]; omega⟩
          · have q1 : decide ((k : Int) < (j : Int)) = false := decide_eq_false (by omega)
            go_wp2_with fail
            all_goals exact ⟨⟨j + 1, m, g1, by omega, by omega, by omega, by go_num, HT.out, by rw [← HGG.out, ← HJ.out, HST.out, noteAll_skip _ _ _ _ (fun h => h.1 (List.eq_nil_of_length_eq_zero (by rw [HCL.out]; omega)))], HBE.out⟩, by simp [intOf]; omega⟩
    · have hks : decide ((k : Int) < (hi : Int)) = false := decide_eq_false (by omega)
      have hgg := HGG.out
      rw [show (text.data.toList.take hi).drop k = [] from List.drop_eq_nil_of_le (by rw [List.length_take]; omega), wdsA, emit_nil] at hgg
      have HG2 := Lib.hid hgg
      clear hgg
      go_wp2_with fail
      go_end0
      exact ⟨rfl, ⟨m, by omega, by rw [← HG2.out]; exact HT.out⟩, HBE.out⟩
end Go.Proofs.Ytpgjjnbepkofdaa
