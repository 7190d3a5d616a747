/-
  The walk of merge.made.
-/
import Derived.Test.YtpgjjnbepkofdaaUpTo
import Derived.Test.YtpgjjnbepkofdaaOrdC
namespace Go.Proofs.Ytpgjjnbepkofdaa
open Go.RowKit
set_option linter.unusedVariables false
set_option linter.unusedSimpArgs false

/-- Hunks that lie between two places of a base of so many lines. -/
def MkOk (n hi : Nat) : List (Hk ByteArray) → Nat → Prop
  | [], lo => lo ≤ hi ∧ hi ≤ n
  | h :: t, lo => lo ≤ h.lo ∧ h.lo ≤ n ∧ MkOk n hi t h.hi
theorem mkOk_le {n hi : Nat} {l : List (Hk ByteArray)} {lo : Nat} (h : MkOk n hi l lo) : lo ≤ n ∧ hi ≤ n := by
  induction l generalizing lo with
  | nil => obtain ⟨h1, h2⟩ := h; omega
  | cons g t ih => obtain ⟨h1, h2, h3⟩ := h; have := ih h3; omega
/-- A part of a slice of strings. -/
theorem part_reads {w W : World} {A : Option Addr} {n c : Nat} {ss : List ByteArray} (h : SRow w (.slice A n c) ss) (hb : Below w.heap.size w W) (b o : Nat) (hA : A = some ⟨b, o, none⟩) (lo hi : Nat) (hlo : lo < hi) (hhi : hi ≤ ss.length) :
    Reads W w.heap.size 1 (some ⟨b, o + lo, none⟩) (hi - lo) (((ss.take hi).drop lo).map .string) := by
  obtain ⟨b', o', e, hb', hc⟩ := Row.srow_plain h (by omega)
  rw [hA] at e
  injection e with e
  injection e with e1 e2 _
  subst e1; subst e2
  refine ⟨by rw [List.length_map, List.length_drop, List.length_take]; omega, fun hp => ⟨_, rfl, hb', fun q u hu => ?_⟩⟩
  rw [add_plain, Nat.add_assoc]
  rw [List.getElem?_map, List.getElem?_drop, List.getElem?_take] at hu
  have hq : lo + q < hi := by
    rcases Nat.lt_or_ge (lo + q) hi with h | h
    · exact h
    · rw [if_neg (by omega)] at hu; cases hu
  rw [if_pos hq] at hu
  exact (hb.cell (p := ⟨b, o + (lo + q), none⟩) hb').trans (hc (lo + q) u (by rw [List.getElem?_map]; exact hu))
theorem part_none {w : World} (B : Nat) (A : Option Addr) (ss : List ByteArray) (lo hi : Nat) (h : hi ≤ lo) : Reads w B 1 A 0 (((ss.take hi).drop lo).map .string) := by
  rw [List.drop_eq_nil_of_le (by rw [List.length_take]; omega)]
  exact ⟨rfl, fun h => absurd h (by omega)⟩
theorem one_strings (ss : List ByteArray) : ∀ u ∈ ss.map Value.string, u.oneCell' = true := by
  intro u hu; obtain ⟨z, _, rfl⟩ := List.mem_map.1 hu; rfl
def MadePost (r : List ByteArray) (W : World) (e : Ending) (w' : World) : Prop := ∃ v, e = .returned v ∧ w'.ownsRow W.heap.size 9 1 v r.length (r.map .string) ∧ Below W.heap.size W w'
set_option maxRecDepth 100000 in
set_option maxHeartbeats 8000000 in
theorem made_any (va vl : Value) (base : List ByteArray) (lo hi : Nat) (l : List HV) (w : World) (ha : SRow w va base) (hl : CRow 3 hvc w vl l) (hs : ∀ x ∈ l, SRow w x.v x.h.ls) (hok : MkOk base.length hi (l.map HV.h) lo) (hb : base.length ≤ 100) (hll : l.length ≤ 1000) (hls : ∀ x ∈ l, x.h.ls.length ≤ 200 ∧ x.h.hi ≤ 1000) :
    Calls Try.prog 70 #[va, .int .i64 (lo : Int), .int .i64 (hi : Int), vl] w (MadePost (mkL base hi (l.map HV.h) lo) w) := by
  obtain ⟨iS, hi_, hz0, hz1, hz2⟩ := info_parts string_info
  have hlo := mkOk_le hok
  obtain ⟨A, c, rfl, hlc, hcm, hr⟩ := id ha
  obtain ⟨A2, c2, rfl, hlc2, hcm2, hr2⟩ := hl
  unfold maxLen at hcm hcm2
  have HA := Lib.hid ha
  have HR := Lib.hid hr2
  have HS := Lib.hid hs
  have HLS := Lib.hid hls
  have HOK : Hid (MkOk base.length hi ((l.map HV.h).drop 0) lo) := Lib.hid (by rw [List.drop_zero]; exact hok)
  clear ha hr hr2 hs hls hok
  go_enter Try.func70, Try.ntmps70
  go_wp2_with fail
  go_loopw [1, 9, 14] (fun vlo vo vk W => ∃ (k lk : Nat) (out : List ByteArray), k ≤ l.length ∧ vk = .int .i64 (k : Int) ∧ vlo = .int .i64 (lk : Int) ∧ MkOk base.length hi ((l.map HV.h).drop k) lk ∧ mkL base hi (l.map HV.h) lo = out ++ mkL base hi ((l.map HV.h).drop k) lk ∧ out.length ≤ k * 300 ∧ W.ownsRow w.heap.size 9 1 vo out.length (out.map .string) ∧ Below w.heap.size w W) (fun _ _ vk _ => l.length - (intOf vk).toNat)
  case atStart => exact ⟨0, lo, [], Nat.zero_le _, rfl, rfl, HOK.out, by simp, Nat.zero_le _, World.ownsRow_nil _ _ _ _, Below.refl _ _⟩
  case round =>
    clear HOK
    obtain ⟨k, lk, out, hk, rfl, rfl, hok, hmk, hol, hown, hB⟩ := hrel
    have hlk := mkOk_le hok
    obtain ⟨Ao, co, rfl, ho1, ho2⟩ := own_slice hown
    unfold maxLen at ho2
    by_cases hlt : k < l.length
    · obtain ⟨b1, o1, rfl, hb1, sc⟩ := CRow.at_ hvc_len (by omega) (HR.out.below hB) hlt
      have s0 := sc 0 _ rfl
      have s1 := sc 1 _ rfl
      have s2 := sc 2 _ rfl
      simp only [Nat.add_zero] at s0
      rw [← Nat.add_assoc] at s1 s2
      clear sc
      rw [List.drop_eq_getElem_cons (by simpa using hlt), List.getElem_map] at hok hmk
      obtain ⟨ok1, ok2, ok3⟩ := hok
      obtain ⟨Ax, cx, hxv, hxl, hxc, hxr⟩ := HS.out _ (List.getElem_mem hlt)
      unfold maxLen at hxc
      have hbd := HLS.out _ (List.getElem_mem hlt)
      rw [hxv] at s2
      rw [mkL] at hmk
      generalize l[k].h.lo = xlo at *
      generalize l[k].h.hi = xhi at *
      generalize l[k].h.ls = xls at *
      have hk300 : k * 300 ≤ 300000 := by omega
      have HMK := Lib.hid hmk
      have OK3 := Lib.hid ok3
      have HXR := Lib.hid hxr
      have HOWN := Lib.hid hown
      clear hmk ok3 hxr hown hxv
      go_wp2_with fail
      have BX := Blk.new wr 147 #[.int .i64 (xlo : Int), .int .i64 (xhi : Int), .slice Ax xls.length cx]
      have OW0 := HOWN.out.alloc (.cells #[.int .i64 (xlo : Int), .int .i64 (xhi : Int), .slice Ax xls.length cx] 147)
      have HB0 := hB.alloc hB.size (.cells #[.int .i64 (xlo : Int), .int .i64 (xhi : Int), .slice Ax xls.length cx] 147)
      clear s0 s1 s2 HOWN hB
      generalize wr.alloc (.cells #[.int .i64 (xlo : Int), .int .i64 (xhi : Int), .slice Ax xls.length cx] 147) = W0 at *
      have b0 : W0.cell? ⟨wr.heap.size, 0, none⟩ = some (.int .i64 (xlo : Int)) := BX.cell 0
      have b1 : W0.cell? ⟨wr.heap.size, 1, none⟩ = some (.int .i64 (xhi : Int)) := BX.cell 1
      have b2 : W0.cell? ⟨wr.heap.size, 2, none⟩ = some (.slice Ax xls.length cx) := BX.cell 2
      have hKp : Kept [(wr.heap.size, 0, .int .i64 (xlo : Int)), (wr.heap.size, 2, .slice Ax xls.length cx)] W0 := fun y hy => by
        simp only [List.mem_cons, List.not_mem_nil, or_false] at hy
        rcases hy with rfl | rfl
        · exact b0
        · exact b2
      rcases Nat.lt_or_ge lk xlo with hne | hne
      · obtain ⟨ba, oa, rfl, hba, _⟩ := Row.srow_plain HA.out (by omega)
        have hcl : ¬ c = lk := by omega
        have hcl2 : ¬ c - lk = 0 := by omega
        refine wp_region_ph [([0, 1, 2, 3, 4, 5, 7, 8], [6, 9]), ([10], [])] (Kept [(wr.heap.size, 0, .int .i64 (xlo : Int)), (wr.heap.size, 2, .slice Ax xls.length cx)]) (by kernel_rfl) (by kernel_rfl) (fun _ _ h1 h2 => h1.below h2) hKp ?_
        intro ι F hne0 hF Wd hWd hId
        have c0F : ∀ i, (F i).cell? ⟨wr.heap.size, 0, none⟩ = some (.int .i64 (xlo : Int)) := fun i => hF i (wr.heap.size, 0, .int .i64 (xlo : Int)) (by simp)
        have c2F : ∀ i, (F i).cell? ⟨wr.heap.size, 2, none⟩ = some (.slice Ax xls.length cx) := fun i => hF i (wr.heap.size, 2, .slice Ax xls.length cx) (by simp)
        have q0 : (0 : Int) ≤ (lk : Int) := by omega
        have q1 : (lk : Int) ≤ (xlo : Int) := by omega
        have q2 : (xlo : Int) ≤ (c : Int) := by omega
        (refine wpPh_cons ?_; simp only [pickOps, List.getElem?_cons_succ, List.getElem?_cons_zero])
        repeat (refine wpB_step (fun K hK => ?_); go_simp; first | (refine hK _ ?_; clear hK K) | (apply Exists.intro; refine ⟨fun _ => ?_, hK _ ?_⟩; (fail); clear hK K))
        refine wpB_nil ?_
        intro w2 hw2 hI2
        clear c0F c2F hF
        have hw2b : Below W0.heap.size W0 w2 := bstep hWd hw2
        have hBw : Below w.heap.size w w2 := bstep HB0 hw2b
        have hpl : (((base.take xlo).drop lk).map Value.string).length = (xlo - lk) := by rw [List.length_map, List.length_drop, List.length_take]; omega
        refine wpRB_append_any rfl (.tmp 18) (.tmp 23) _ rfl w.heap.size 9 _ 1 16 Try.underlying24 string_info rfl (by decide) (.slice Ao out.length co) out.length (out.map .string) rfl (own_below OW0 hw2b) w.heap.size _ (xlo - lk) _ (((base.take xlo).drop lk).map .string) rfl (part_reads HA.out hBw ba oa rfl lk xlo hne ok2) (one_strings _) (by unfold maxLen; omega) (by omega) hBw.size ?_
        intro v1 w3 h31 h32 h33
        have BX2 := BX.below hw2b BX.lt
        have hB3 := hBw.grown h32 hBw.size (fun q hq => ((own_below OW0 hw2b).lt q hq).1)
        have nb1 := own_blk_ne (own_below OW0 hw2b) BX2 (by decide)
        refine ⟨hI2.grown h32 (fun y hy => by
          simp only [List.mem_cons, List.not_mem_nil, or_false] at hy
          rcases hy with rfl | rfl
          · exact Ne.symm nb1
          · exact Ne.symm nb1), ?_⟩
        intro w4 hw4 hI4
        have BX4 := (BX2.grown h32 (Ne.symm nb1)).below hw4 (BX2.grown h32 (Ne.symm nb1)).lt
        have hB4 := bstep hB3 hw4
        have OW4 := own_below h31 hw4
        rw [← List.map_append] at OW4
        have hl4 : (out ++ (base.take xlo).drop lk).length = out.length + (xlo - lk) := by rw [List.length_append]; rw [List.length_map] at hpl; omega
        rw [← hl4] at OW4
        clear h31 h32 h33 hw4 hI2 nb1 BX2 hB3
        refine wpRB_append_any rfl (.tmp 24) (.tmp 26) _ rfl w.heap.size 9 _ 1 16 Try.underlying24 string_info rfl (by decide) v1 _ ((out ++ (base.take xlo).drop lk).map .string) rfl OW4 w.heap.size Ax xls.length cx (xls.map .string) rfl (HXR.out.below hB4) (one_strings _) (by unfold maxLen; omega) (by omega) hB4.size ?_
        intro v2 w5 h51 h52 h53
        have hB5 := hB4.grown h52 hB4.size (fun q hq => (OW4.lt q hq).1)
        have nb2 := own_blk_ne OW4 BX4 (by decide)
        refine ⟨hI4.grown h52 (fun y hy => by
          simp only [List.mem_cons, List.not_mem_nil, or_false] at hy
          rcases hy with rfl | rfl
          · exact Ne.symm nb2
          · exact Ne.symm nb2), ?_⟩
        intro w6 hw6 hI6
        have BX6 := (BX4.grown h52 (Ne.symm nb2)).below hw6 (BX4.grown h52 (Ne.symm nb2)).lt
        have hB6 := bstep hB5 hw6
        have OW6 := own_below h51 hw6
        rw [← List.map_append] at OW6
        have hl6 : ((out ++ (base.take xlo).drop lk) ++ xls).length = (out ++ (base.take xlo).drop lk).length + xls.length := by rw [List.length_append]
        rw [← hl6] at OW6
        clear h51 h52 h53 hw6 hI4 nb2 BX4 hB5 OW4
        refine wpRB_nil ?_
        (refine wpPh_cons ?_; simp only [pickOps, List.getElem?_cons_succ, List.getElem?_cons_zero])
        repeat (refine wpB_step (fun K hK => ?_); go_simp; first | (refine hK _ ?_; clear hK K) | (apply Exists.intro; refine ⟨fun _ => ?_, hK _ ?_⟩; (fail); clear hK K))
        refine wpB_nil ?_
        intro w7 hw7 hI7
        have BX7 := BX6.below hw7 BX6.lt
        have hB7 := bstep hB6 hw7
        have OW7 := own_below OW6 hw7
        have b17 : w7.cell? ⟨wr.heap.size, 1, none⟩ = some (.int .i64 (xhi : Int)) := BX7.cell 1
        refine wpRB_nil ?_
        refine wpPh_nil ?_
        clear b0 b1 b2 hw2 hId hWd hw2b hI6 hI7 hw7 hKp OW6 hB6 BX6 hB4
        go_wp2_with fail
        exact ⟨⟨k + 1, xhi, (out ++ (base.take xlo).drop lk) ++ xls, by omega, by go_num, rfl, OK3.out, by rw [HMK.out]; simp only [List.append_assoc], by omega, OW7, hB7⟩, by simp [intOf]; omega⟩
      · have hzz : xlo - lk = 0 := by omega
        refine wp_region_ph [([0, 1, 2, 3, 4, 5, 7, 8], [6, 9]), ([10], [])] (Kept [(wr.heap.size, 0, .int .i64 (xlo : Int)), (wr.heap.size, 2, .slice Ax xls.length cx)]) (by kernel_rfl) (by kernel_rfl) (fun _ _ h1 h2 => h1.below h2) hKp ?_
        intro ι F hne0 hF Wd hWd hId
        have c0F : ∀ i, (F i).cell? ⟨wr.heap.size, 0, none⟩ = some (.int .i64 (xlo : Int)) := fun i => hF i (wr.heap.size, 0, .int .i64 (xlo : Int)) (by simp)
        have c2F : ∀ i, (F i).cell? ⟨wr.heap.size, 2, none⟩ = some (.slice Ax xls.length cx) := fun i => hF i (wr.heap.size, 2, .slice Ax xls.length cx) (by simp)
        have q0 : (0 : Int) ≤ (lk : Int) := by omega
        have q1 : (lk : Int) ≤ (xlo : Int) := by omega
        have q2 : (xlo : Int) ≤ (c : Int) := by omega
        (refine wpPh_cons ?_; simp only [pickOps, List.getElem?_cons_succ, List.getElem?_cons_zero])
        repeat (refine wpB_step (fun K hK => ?_); go_simp; first | (refine hK _ ?_; clear hK K) | (apply Exists.intro; refine ⟨fun _ => ?_, hK _ ?_⟩; (fail); clear hK K))
        refine wpB_nil ?_
        intro w2 hw2 hI2
        clear c0F c2F hF
        have hw2b : Below W0.heap.size W0 w2 := bstep hWd hw2
        have hBw : Below w.heap.size w w2 := bstep HB0 hw2b
        have hpl : (((base.take xlo).drop lk).map Value.string).length = 0 := by rw [List.length_map, List.length_drop, List.length_take]; omega
        refine wpRB_append_any rfl (.tmp 18) (.tmp 23) _ rfl w.heap.size 9 _ 1 16 Try.underlying24 string_info rfl (by decide) (.slice Ao out.length co) out.length (out.map .string) rfl (own_below OW0 hw2b) 0 _ 0 _ (((base.take xlo).drop lk).map .string) rfl (part_none 0 _ base lk xlo hne) (one_strings _) (by unfold maxLen; omega) (by omega) hBw.size ?_
        intro v1 w3 h31 h32 h33
        have BX2 := BX.below hw2b BX.lt
        have hB3 := hBw.grown h32 hBw.size (fun q hq => ((own_below OW0 hw2b).lt q hq).1)
        have nb1 := own_blk_ne (own_below OW0 hw2b) BX2 (by decide)
        refine ⟨hI2.grown h32 (fun y hy => by
          simp only [List.mem_cons, List.not_mem_nil, or_false] at hy
          rcases hy with rfl | rfl
          · exact Ne.symm nb1
          · exact Ne.symm nb1), ?_⟩
        intro w4 hw4 hI4
        have BX4 := (BX2.grown h32 (Ne.symm nb1)).below hw4 (BX2.grown h32 (Ne.symm nb1)).lt
        have hB4 := bstep hB3 hw4
        have OW4 := own_below h31 hw4
        rw [← List.map_append] at OW4
        have hl4 : (out ++ (base.take xlo).drop lk).length = out.length + 0 := by rw [List.length_append]; rw [List.length_map] at hpl; omega
        rw [← hl4] at OW4
        clear h31 h32 h33 hw4 hI2 nb1 BX2 hB3
        refine wpRB_append_any rfl (.tmp 24) (.tmp 26) _ rfl w.heap.size 9 _ 1 16 Try.underlying24 string_info rfl (by decide) v1 _ ((out ++ (base.take xlo).drop lk).map .string) rfl OW4 w.heap.size Ax xls.length cx (xls.map .string) rfl (HXR.out.below hB4) (one_strings _) (by unfold maxLen; omega) (by omega) hB4.size ?_
        intro v2 w5 h51 h52 h53
        have hB5 := hB4.grown h52 hB4.size (fun q hq => (OW4.lt q hq).1)
        have nb2 := own_blk_ne OW4 BX4 (by decide)
        refine ⟨hI4.grown h52 (fun y hy => by
          simp only [List.mem_cons, List.not_mem_nil, or_false] at hy
          rcases hy with rfl | rfl
          · exact Ne.symm nb2
          · exact Ne.symm nb2), ?_⟩
        intro w6 hw6 hI6
        have BX6 := (BX4.grown h52 (Ne.symm nb2)).below hw6 (BX4.grown h52 (Ne.symm nb2)).lt
        have hB6 := bstep hB5 hw6
        have OW6 := own_below h51 hw6
        rw [← List.map_append] at OW6
        have hl6 : ((out ++ (base.take xlo).drop lk) ++ xls).length = (out ++ (base.take xlo).drop lk).length + xls.length := by rw [List.length_append]
        rw [← hl6] at OW6
        clear h51 h52 h53 hw6 hI4 nb2 BX4 hB5 OW4
        refine wpRB_nil ?_
        (refine wpPh_cons ?_; simp only [pickOps, List.getElem?_cons_succ, List.getElem?_cons_zero])
        repeat (refine wpB_step (fun K hK => ?_); go_simp; first | (refine hK _ ?_; clear hK K) | (apply Exists.intro; refine ⟨fun _ => ?_, hK _ ?_⟩; (fail); clear hK K))
        refine wpB_nil ?_
        intro w7 hw7 hI7
        have BX7 := BX6.below hw7 BX6.lt
        have hB7 := bstep hB6 hw7
        have OW7 := own_below OW6 hw7
        have b17 : w7.cell? ⟨wr.heap.size, 1, none⟩ = some (.int .i64 (xhi : Int)) := BX7.cell 1
        refine wpRB_nil ?_
        refine wpPh_nil ?_
        clear b0 b1 b2 hw2 hId hWd hw2b hI6 hI7 hw7 hKp OW6 hB6 BX6 hB4
        go_wp2_with fail
        exact ⟨⟨k + 1, xhi, (out ++ (base.take xlo).drop lk) ++ xls, by omega, by go_num, rfl, OK3.out, by rw [HMK.out]; simp only [List.append_assoc], by omega, OW7, hB7⟩, by simp [intOf]; omega⟩
    · obtain rfl : k = l.length := by omega
      have hz : (l.map HV.h).drop l.length = [] := List.drop_eq_nil_of_le (by simp)
      rw [hz] at hok hmk
      rw [mkL] at hmk
      have HMK := Lib.hid hmk
      have HOWN := Lib.hid hown
      have e1 : lk ≤ hi := hok.1
      clear hmk hown hok hz
      rcases Nat.lt_or_ge lk hi with hne | hne
      · obtain ⟨ba, oa, rfl, hba, _⟩ := Row.srow_plain HA.out (by omega)
        have hcl : ¬ c = lk := by omega
        have hcl2 : ¬ c - lk = 0 := by omega
        have q0 : (0 : Int) ≤ (lk : Int) := by omega
        have q1 : (lk : Int) ≤ (hi : Int) := by omega
        have q2 : (hi : Int) ≤ (c : Int) := by omega
        have hpl : (((base.take hi).drop lk).map Value.string).length = (hi - lk) := by rw [List.length_map, List.length_drop, List.length_take]; omega
        go_wp2_with (at_builtin; refine wpList_append_any _ rfl (.tmp 31) (.tmp 35) _ rfl w.heap.size 9 iS _ 1 16 Try.underlying24 hi_ hz0 hz1 hz2 rfl (by decide) (.slice Ao out.length co) out.length (out.map .string) rfl HOWN.out w.heap.size _ (hi - lk) _ (((base.take hi).drop lk).map .string) rfl (part_reads HA.out hB ba oa rfl lk hi hne hlk.2) (one_strings _) (by unfold maxLen; omega) (by omega) hB.size ?_)
        intro v1 w3 h31 h32 h33
        have hB3 := hB.grown h32 hB.size (fun q hq => (HOWN.out.lt q hq).1)
        have e9 : (out ++ (base.take hi).drop lk).map Value.string = out.map Value.string ++ ((base.map Value.string).take hi).drop lk := by rw [List.map_append, List.map_drop, List.map_take]
        have e8 : ((base.take hi).drop lk).map Value.string = ((base.map Value.string).take hi).drop lk := by rw [List.map_drop, List.map_take]
        try rw [e8] at h31
        rw [← e9] at h31
        clear e9 e8
        have hl3 : (out ++ (base.take hi).drop lk).length = out.length + (hi - lk) := by rw [List.length_append]; rw [List.length_map] at hpl; omega
        try rw [Nat.add_zero] at hl3
        rw [← hl3] at h31
        clear h33 h32
        go_wp2_with fail
        go_ret
        exact ⟨_, rfl, by rw [HMK.out]; exact h31, hB3⟩
      · have hzz : hi - lk = 0 := by omega
        by_cases hcl : c = lk
        · have q0 : (0 : Int) ≤ (lk : Int) := by omega
          have q1 : (lk : Int) ≤ (hi : Int) := by omega
          have q2 : (hi : Int) ≤ (c : Int) := by omega
          have hpl : (((base.take hi).drop lk).map Value.string).length = 0 := by rw [List.length_map, List.length_drop, List.length_take]; omega
          go_wp2_with (at_builtin; refine wpList_append_any _ rfl (.tmp 31) (.tmp 35) _ rfl w.heap.size 9 iS _ 1 16 Try.underlying24 hi_ hz0 hz1 hz2 rfl (by decide) (.slice Ao out.length co) out.length (out.map .string) rfl HOWN.out 0 _ 0 _ (((base.take hi).drop lk).map .string) rfl (part_none 0 _ base lk hi hne) (one_strings _) (by unfold maxLen; omega) (by omega) hB.size ?_)
          intro v1 w3 h31 h32 h33
          have hB3 := hB.grown h32 hB.size (fun q hq => (HOWN.out.lt q hq).1)
          have e9 : (out ++ (base.take hi).drop lk).map Value.string = out.map Value.string ++ ((base.map Value.string).take hi).drop lk := by rw [List.map_append, List.map_drop, List.map_take]
          have e8 : ((base.take hi).drop lk).map Value.string = ((base.map Value.string).take hi).drop lk := by rw [List.map_drop, List.map_take]
          try rw [e8] at h31
          rw [← e9] at h31
          clear e9 e8
          have hl3 : (out ++ (base.take hi).drop lk).length = out.length + 0 := by rw [List.length_append]; rw [List.length_map] at hpl; omega
          try rw [Nat.add_zero] at hl3
          rw [← hl3] at h31
          clear h33 h32
          go_wp2_with fail
          go_ret
          exact ⟨_, rfl, by rw [HMK.out]; exact h31, hB3⟩
        · have hcl2 : ¬ c - lk = 0 := by omega
          have q0 : (0 : Int) ≤ (lk : Int) := by omega
          have q1 : (lk : Int) ≤ (hi : Int) := by omega
          have q2 : (hi : Int) ≤ (c : Int) := by omega
          have hpl : (((base.take hi).drop lk).map Value.string).length = 0 := by rw [List.length_map, List.length_drop, List.length_take]; omega
          go_wp2_with (at_builtin; refine wpList_append_any _ rfl (.tmp 31) (.tmp 35) _ rfl w.heap.size 9 iS _ 1 16 Try.underlying24 hi_ hz0 hz1 hz2 rfl (by decide) (.slice Ao out.length co) out.length (out.map .string) rfl HOWN.out 0 _ 0 _ (((base.take hi).drop lk).map .string) rfl (part_none 0 _ base lk hi hne) (one_strings _) (by unfold maxLen; omega) (by omega) hB.size ?_)
          intro v1 w3 h31 h32 h33
          have hB3 := hB.grown h32 hB.size (fun q hq => (HOWN.out.lt q hq).1)
          have e9 : (out ++ (base.take hi).drop lk).map Value.string = out.map Value.string ++ ((base.map Value.string).take hi).drop lk := by rw [List.map_append, List.map_drop, List.map_take]
          have e8 : ((base.take hi).drop lk).map Value.string = ((base.map Value.string).take hi).drop lk := by rw [List.map_drop, List.map_take]
          try rw [e8] at h31
          rw [← e9] at h31
          clear e9 e8
          have hl3 : (out ++ (base.take hi).drop lk).length = out.length + 0 := by rw [List.length_append]; rw [List.length_map] at hpl; omega
          try rw [Nat.add_zero] at hl3
          rw [← hl3] at h31
          clear h33 h32
          go_wp2_with fail
          go_ret
          exact ⟨_, rfl, by rw [HMK.out]; exact h31, hB3⟩
end Go.Proofs.Ytpgjjnbepkofdaa
