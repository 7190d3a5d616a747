/-
  The walk of the law DiffBack: whatever its input, it returns true and changes nothing that was there.
-/
import Derived.Test.YtpbpdglabeoehaaPatch
namespace Go.Proofs.Ytpbpdglabeoehaa
open Go.RowKit
set_option linter.unusedVariables false

section
variable {α : Type}
theorem newsOf_len : ∀ (l : List St) (b : List α), (newsOf l b).length ≤ b.length
  | [], b => by simp [newsOf]
  | s :: l, b => by
    unfold newsOf
    have h1 := newsOf_len l (b.drop s.c)
    have h2 := newsOf_len l b
    rw [List.length_drop] at h1
    split
    · omega
    · split
      · exact h2
      · rw [List.length_append, List.length_take]; omega
theorem cst_rep (c k : Nat) (ks : List Nat) : cst (List.replicate c k ++ ks) = (if k = 1 then 0 else c) + cst ks := by
  unfold cst
  rw [List.countP_append, List.countP_replicate]
  by_cases h : k = 1
  · subst h; simp
  · simp [h]
/-- One step on. -/
theorem one_on (l : List St) (s : St) (r : List St) (a b dn N : List α) (cost D : Nat) (hk : 1 ≤ s.k ∧ s.k ≤ 3) (h1 : okK (expand (s :: r)) a b) (h2 : N = dn ++ newsOf (s :: r) b) (h3 : cost + cst (expand (s :: r)) = D) :
    (s.k = 1 ∧ s.c ≤ b.length ∧ okK (expand r) (a.drop s.c) (b.drop s.c) ∧ N = dn ++ newsOf r (b.drop s.c) ∧ cost + cst (expand r) = D) ∨
    (s.k = 2 ∧ okK (expand r) (a.drop s.c) b ∧ N = dn ++ newsOf r b ∧ cost + s.c + cst (expand r) = D) ∨
    (s.k = 3 ∧ s.c ≤ b.length ∧ okK (expand r) a (b.drop s.c) ∧ N = (dn ++ b.take s.c) ++ newsOf r (b.drop s.c) ∧ cost + s.c + cst (expand r) = D) := by
  have hc : s.k = 1 ∨ s.k = 2 ∨ s.k = 3 := by omega
  rw [expand_cons] at h1 h3
  rw [cst_rep] at h3
  unfold newsOf at h2
  rcases hc with e | e | e
  · rw [e] at h1
    obtain ⟨b1, b2, b3, b4⟩ := ok_rep1 _ _ _ _ h1
    rw [if_pos e] at h2 h3
    exact .inl ⟨e, b2, b4, h2, by omega⟩
  · rw [e] at h1
    obtain ⟨b1, b4⟩ := ok_rep2 _ _ _ _ h1
    rw [if_neg (by omega), if_pos e] at h2
    rw [if_neg (by omega)] at h3
    exact .inr (.inl ⟨e, b4, h2, by omega⟩)
  · rw [e] at h1
    obtain ⟨b1, b4⟩ := ok_rep3 _ _ _ _ h1
    rw [if_neg (by omega), if_neg (by omega)] at h2
    rw [if_neg (by omega)] at h3
    exact .inr (.inr ⟨e, b1, b4, by rw [List.append_assoc]; exact h2, by omega⟩)
end
set_option maxRecDepth 100000 in
set_option maxHeartbeats 4000000 in
theorem diffBack_walk (w : World) (v0 : Value) (l : List Int) (h0 : Row .i64 w v0 l) (v1 : Value) (m : List Int) (h1 : Row .i64 w v1 m) (kinds : Int) (hk : -9223372036854775808 ≤ kinds ∧ kinds ≤ 9223372036854775807) :
    Calls Try.prog 6 #[v0, v1, .int .i64 kinds] w fun e w' => e = .returned (.bool true) ∧ Below w.heap.size w w' := by
  obtain ⟨iS, hi, hz0, hz1, hz2⟩ := info_parts string_info
  have hp := fun W => picked_any kinds 8 W hk (by omega) (by omega)
  have hm := Int.emod_nonneg kinds (show (8 : Int) ≠ 0 by omega)
  have hm2 := Int.emod_lt_of_pos kinds (show (0 : Int) < 8 by omega)
  generalize kinds % 8 = y at *
  obtain ⟨q, rfl⟩ : ∃ q : Nat, y = (q : Int) - 1 := ⟨(y + 1).toNat, by omega⟩
  have hq : 1 ≤ q ∧ q ≤ 8 := by omega
  have hsum : (1 : Int) + ((q : Int) - 1) = q := by omega
  clear hm hm2
  go_enter Try.func6, Try.ntmps6
  go_wp2_with fail
  refine (hp _).mono ?_
  rintro e w' ⟨rfl, rfl⟩
  go_wp2_with fail
  refine (lines_at 40 40 rfl v0 l q _ h0 (by omega) hq.1 hq.2).mono ?_
  rintro e w1 ⟨va, a, rfl, sa, la, za, hb1⟩
  go_wp2_with fail
  refine (lines_at 40 40 rfl v1 m q _ (h1.later hb1) (by omega) hq.1 hq.2).mono ?_
  rintro e w2 ⟨vb, b, rfl, sb, lb, zb, hb2⟩
  replace sa := sa.later hb2
  replace hb2 := bstep hb1 hb2
  clear hp h0 h1 hb1
  obtain ⟨A0, c0, rfl, hl0, hc0, -⟩ := id sa
  obtain ⟨A1, c1, rfl, hl1, hc1, -⟩ := id sb
  unfold maxLen at hc0 hc1
  have HP := Lib.hid (way_ok _ a b (Nat.le_refl _))
  have HCO := Lib.hid (way_cost _ a b (Nat.le_refl _))
  have HG := Lib.hid (grp_steps (way a b))
  have HK := Lib.hid (steps_kind (way a b) (way_kind _ a b (Nat.le_refl _)))
  have HX := Lib.hid (expand_steps (way a b))
  have HLE := Lib.hid (grp_len _ (grp_steps (way a b)))
  have hll : (steps (way a b)).length ≤ 80 := by
    have h1 := HLE.out
    unfold total at h1
    rw [HX.out] at h1
    have := way_len _ a b (Nat.le_refl _); omega
  have HST := Lib.hid (fun va vb W ha hb => steps_any va vb a b W ha hb (by omega) (by omega) za zb)
  have HCS := Lib.hid (fun va vb W ha hb => costOf_any va vb a b W ha hb (by omega) (by omega) za zb)
  have HPT := Lib.hid (fun va vs vn n W ha hs hn hok hln => patch_any va vs vn a n b (steps (way a b)) W ha hs hn hok (by omega) hln (by omega) (by omega))
  have hOKP := okP_of (steps (way a b)) a b HG.out HK.out (by rw [HX.out]; exact HP.out)
  have HOKP := Lib.hid hOKP
  have hdc := Dc.dc_le a b
  rw [← HX.out] at HP HCO
  clear hOKP HX HLE za zb
  generalize hSE : steps (way a b) = S at *
  have HSE := Lib.hid hSE
  clear hSE
  go_wp2_with (at_builtin; refine wpList_copyStrs rfl (.tmp 28) _ rfl 9 _ 16 Try.underlying44 string_info rfl _ a rfl sa (by omega) (by omega) ?_)
  intro va2 w3 _ sa2 hb3
  replace sa := sa.later hb3
  replace sb := sb.later hb3
  replace hb3 := bstep hb2 hb3
  go_wp2_with (at_builtin; refine wpList_copyStrs rfl (.tmp 30) _ rfl 9 _ 16 Try.underlying44 string_info rfl _ b rfl sb (by omega) (by omega) ?_)
  intro vb2 w4 _ sb2 hb4
  replace sa := sa.later hb4
  replace sb := sb.later hb4
  replace sa2 := sa2.later hb4
  replace hb4 := bstep hb3 hb4
  clear hb2 hb3
  go_wp2_with fail
  refine (HST.out _ _ _ sa2 sb2).mono ?_
  rintro e w5 ⟨vs, rfl, ss, hb5⟩
  rw [HSE.out] at ss
  replace sa := sa.later hb5
  replace sb := sb.later hb5
  replace hb5 := bstep hb4 hb5
  clear hb4 sa2 sb2 HST
  obtain ⟨A2, c2, rfl, hl2, hc2, hsr⟩ := id ss
  have HSR := Lib.hid hsr
  have HSS := Lib.hid ss
  clear hsr ss
  unfold maxLen at hc2
  go_wp2_with fail
  go_loopw [12, 13, 14, 15] (fun nv av cv iv wr => ∃ (i at_ cost x : Nat) (dn : List ByteArray), i ≤ S.length ∧ at_ ≤ b.length ∧ iv = .int .i64 i ∧ av = .int .i64 at_ ∧ cv = .int .i64 cost ∧ okK (expand (S.drop i)) (a.drop x) (b.drop at_) ∧ newsOf S b = dn ++ newsOf (S.drop i) (b.drop at_) ∧ cost + cst (expand (S.drop i)) = Dc.dc a b ∧ wr.ownsRow w5.heap.size 9 1 nv dn.length (dn.map .string) ∧ Below w5.heap.size w5 wr) (fun _ _ _ iv _ => S.length - (intOf iv).toNat)
  case atStart => exact ⟨0, 0, 0, 0, [], Nat.zero_le _, Nat.zero_le _, rfl, rfl, rfl, HP.out, rfl, by rw [List.drop_zero, HCO.out]; simp, World.ownsRow_nil _ _ _ _, Below.refl _ _⟩
  case round =>
    obtain ⟨i, at_, cost, x, dn, hil, hat, rfl, rfl, rfl, hok, hnw, hco, hown, hbel⟩ := hrel
    have hcd : cost ≤ 80 := by omega
    have hdl : dn.length ≤ 80 := by
      have h1 := newsOf_len S b
      have h2 := congrArg List.length hnw
      rw [List.length_append] at h2; omega
    by_cases hlt : i < S.length
    · have hga := grp_at S HG.out i hlt
      have hki := HK.out S[i] (List.getElem_mem hlt)
      rw [List.drop_eq_getElem_cons hlt] at hok hnw hco
      have hcase := one_on S S[i] (S.drop (i + 1)) (a.drop x) (b.drop at_) dn _ cost _ hki hok hnw hco
      clear hok hnw hco
      obtain ⟨b2, o2, rfl, hB2, sc⟩ := CRow.at_ stc_len (by omega) (HSR.out.below hbel) hlt
      have s0 := sc 0 _ rfl
      have s1 := sc 1 _ rfl
      simp only [Nat.add_zero] at s0
      rw [← Nat.add_assoc] at s1
      have hga1 := hga.1
      have hprev : i = 0 ∨ ∃ t kp, ∃ ht : t < S.length, i = t + 1 ∧ kp = S[t].k ∧ kp ≠ S[i].k := by
        rcases Nat.eq_zero_or_pos i with h | h
        · exact .inl h
        · obtain ⟨t, rfl⟩ : ∃ t, i = t + 1 := ⟨i - 1, by omega⟩
          exact .inr ⟨t, _, by omega, rfl, rfl, (grp_at S HG.out t (by omega)).2 hlt⟩
      clear hga
      generalize S[i] = st at *
      obtain ⟨k, c⟩ := st
      simp only at hcase hki hga1 s0 s1 hprev
      have hcc : c ≤ 80 := by
        rcases hcase with ⟨_, h, _⟩ | ⟨_, _, _, h⟩ | ⟨_, h, _⟩
        · rw [List.length_drop] at h; omega
        · omega
        · rw [List.length_drop] at h; omega
      have HCA := Lib.hid hcase
      have hk9 : (k = 1 ∧ c ≤ b.length - at_) ∨ k = 2 ∨ (k = 3 ∧ c ≤ b.length - at_) := by
        rcases hcase with ⟨h1, h, _⟩ | ⟨h1, _⟩ | ⟨h1, h, _⟩
        · rw [List.length_drop] at h; exact .inl ⟨h1, h⟩
        · exact .inr (.inl h1)
        · rw [List.length_drop] at h; exact .inr (.inr ⟨h1, h⟩)
      have i0 : (0 : Int) ≤ (i : Int) := Int.natCast_nonneg _
      have i1 : (i : Int) < (S.length : Int) := by omega
      have d1 : decide ((c : Int) < 1) = false := by simp; omega
      have HO := Lib.hid hown
      clear hcase sc hown
      rcases hprev with rfl | ⟨t, kp, ht, rfl, hkp, hne⟩
      · simp only [Nat.zero_mul, Nat.add_zero] at s0 s1
        have d2 : decide ((0 : Int) < ((0 : Nat) : Int)) = false := by simp
        rcases hk9 with ⟨rfl, hcb⟩ | rfl | ⟨rfl, hcb⟩
        · have HQ : Hid (okK (expand (S.drop (1))) (a.drop (x + c)) (b.drop (at_ + c)) ∧ newsOf S b = dn ++ newsOf (S.drop (1)) (b.drop (at_ + c)) ∧ cost + cst (expand (S.drop (1))) = Dc.dc a b) := Lib.hid (by
            rcases HCA.out with ⟨_, q1, q2, q3, q4⟩ | ⟨h, _⟩ | ⟨h, _⟩
            · rw [List.drop_drop, List.drop_drop] at q2
              rw [List.drop_drop] at q3
              exact ⟨q2, q3, q4⟩
            · omega
            · omega)
          clear HCA
          go_wp2_with fail
          go_quiet (fail)
          go_wp2_with fail
          go_roundw
          case rel => exact ⟨1, at_ + c, cost, x + c, dn, by omega, by omega, by go_num, by go_num, rfl, HQ.out.1, HQ.out.2.1, HQ.out.2.2, HO.out, below_drewN hbel _⟩
          case measure => simp [intOf]; omega
        · have HQ : Hid (okK (expand (S.drop (1))) (a.drop (x + c)) (b.drop at_) ∧ newsOf S b = dn ++ newsOf (S.drop (1)) (b.drop at_) ∧ cost + c + cst (expand (S.drop (1))) = Dc.dc a b) := Lib.hid (by
            rcases HCA.out with ⟨h, _⟩ | ⟨_, q2, q3, q4⟩ | ⟨h, _⟩
            · omega
            · rw [List.drop_drop] at q2
              exact ⟨q2, q3, q4⟩
            · omega)
          clear HCA
          go_wp2_with fail
          go_quiet (fail)
          go_wp2_with fail
          go_roundw
          case rel => exact ⟨1, at_, cost + c, x + c, dn, by omega, by omega, by go_num, rfl, by go_num, HQ.out.1, HQ.out.2.1, HQ.out.2.2, HO.out, below_drewN hbel _⟩
          case measure => simp [intOf]; omega
        · have HQ : Hid (okK (expand (S.drop (1))) (a.drop x) (b.drop (at_ + c)) ∧ newsOf S b = (dn ++ (b.drop at_).take c) ++ newsOf (S.drop (1)) (b.drop (at_ + c)) ∧ cost + c + cst (expand (S.drop (1))) = Dc.dc a b) := Lib.hid (by
            rcases HCA.out with ⟨h, _⟩ | ⟨h, _⟩ | ⟨_, q1, q2, q3, q4⟩
            · omega
            · omega
            · rw [List.drop_drop] at q2
              rw [List.drop_drop] at q3
              exact ⟨q2, q3, q4⟩)
          clear HCA
          have zB := SRB.below (SRB.of sb) hbel
          obtain ⟨bB, oB, rfl⟩ := zB.plain (by omega)
          have zd := zB.drop (k := at_) hat
          rw [if_neg (show ¬ c1 = at_ by omega)] at zd
          simp only [Option.map_some, add_plain] at zd
          rw [← List.length_drop] at zd
          have zh := SRB.head zd (k := c) (by rw [List.length_drop]; omega)
          have ZH := Lib.hid zh
          clear zh zd zB
          have j0 : (at_ : Int) + (c : Int) ≤ (c1 : Int) := by omega
          have j1 : at_ < c1 := by omega
          go_wp2_with fail
          go_quiet (fail)
          have ow := own_below HO.out (below_drewN (Below.refl _ _) nq)
          have rw' := (ZH.out.below (below_drewN (Below.refl _ _) nq))
          have kw := below_drewN hbel nq
          have s0' : (wr.drewN nq).cell? _ = _ := s0
          have s1' : (wr.drewN nq).cell? _ = _ := s1
          have HOW := Lib.hid ow
          have HRW := Lib.hid rw'
          have HKW := Lib.hid kw
          clear ow rw' kw s0 s1 ZH HO
          generalize wr.drewN nq = V at *
          clear hbel
          go_wp2_with (at_builtin; refine wpList_append_any _ rfl (.tmp 89) (.tmp 99) _ rfl w5.heap.size 9 iS _ 1 16 Try.underlying44 hi hz0 hz1 hz2 rfl (by decide) u12 dn.length (dn.map .string) rfl HOW.out w5.heap.size _ (at_ + c - at_) _ (((b.drop at_).take c).map .string) rfl (by rw [Nat.add_sub_cancel_left]; exact HRW.out) (strs_one _) (by unfold maxLen; omega) (by omega) HKW.out.size ?_; rw [Nat.add_sub_cancel_left])
          intro v9 w9 own9 g9 _
          have k9 : Below w5.heap.size V w9 := (Below.refl _ _).grown g9 HKW.out.size (fun g hg => (HOW.out.lt g hg).1)
          have kk := HKW.out.trans k9
          have e0 : w9.cell? ⟨b2, o2, none⟩ = some (.int .i64 3) := (k9.cell (p := ⟨b2, o2, none⟩) hB2).trans s0'
          have e1 : w9.cell? ⟨b2, o2 + 1, none⟩ = some (.int .i64 (c : Int)) := (k9.cell (p := ⟨b2, o2 + 1, none⟩) hB2).trans s1'
          obtain ⟨dn9, hdn9⟩ : ∃ d, d = dn ++ (b.drop at_).take c := ⟨_, rfl⟩
          have hl9 : dn9.length = dn.length + c := by rw [hdn9]; simp; omega
          have hm9 : dn9.map Value.string = dn.map .string ++ ((b.map Value.string).drop at_).take c := by rw [hdn9, List.map_append, List.map_take, List.map_drop]
          rw [← hl9, ← hm9] at own9
          rw [← hdn9] at HQ
          have HO9 := Lib.hid own9
          clear own9 g9 k9 s0' s1' HOW HRW HKW hdn9 hl9 hm9
          go_wp2_with fail
          go_roundw
          case rel => exact ⟨1, at_ + c, cost + c, x, dn9, by omega, by omega, by first | rfl | go_num, by first | rfl | go_num, by first | rfl | go_num, HQ.out.1, HQ.out.2.1, HQ.out.2.2, HO9.out, kk⟩
          case measure => simp [intOf]; omega
      · obtain ⟨b2', o2', he, -, sp⟩ := CRow.at_ stc_len (by omega) (HSR.out.below hbel) ht
        injection he with he
        injection he with he1 he2
        subst he1 he2
        have p0 := sp 0 _ rfl
        simp only [Nat.add_zero] at p0
        rw [← hkp] at p0
        have hkb : kp ≤ 3 := by rw [hkp]; exact (HK.out _ (List.getElem_mem ht)).2
        clear sp hkp
        have d3 : ((kp : Int) == (k : Int)) = false := by simp; omega
        have i2 : (0 : Int) ≤ (t : Int) := Int.natCast_nonneg _
        have i3 : (t : Int) < (S.length : Int) := by omega
        have d2 : decide ((0 : Int) < ((t + 1 : Nat) : Int)) = true := decide_eq_true (by omega)
        have i4 : (t : Int) + 1 < (S.length : Int) := by omega
        clear hne
        rcases hk9 with ⟨rfl, hcb⟩ | rfl | ⟨rfl, hcb⟩
        · have HQ : Hid (okK (expand (S.drop (t + 1 + 1))) (a.drop (x + c)) (b.drop (at_ + c)) ∧ newsOf S b = dn ++ newsOf (S.drop (t + 1 + 1)) (b.drop (at_ + c)) ∧ cost + cst (expand (S.drop (t + 1 + 1))) = Dc.dc a b) := Lib.hid (by
            rcases HCA.out with ⟨_, q1, q2, q3, q4⟩ | ⟨h, _⟩ | ⟨h, _⟩
            · rw [List.drop_drop, List.drop_drop] at q2
              rw [List.drop_drop] at q3
              exact ⟨q2, q3, q4⟩
            · omega
            · omega)
          clear HCA
          go_wp2_with fail
          go_quiet (fail)
          go_wp2_with fail
          go_roundw
          case rel => exact ⟨t + 1 + 1, at_ + c, cost, x + c, dn, by omega, by omega, by go_num, by go_num, rfl, HQ.out.1, HQ.out.2.1, HQ.out.2.2, HO.out, below_drewN hbel _⟩
          case measure => simp [intOf]; omega
        · have HQ : Hid (okK (expand (S.drop (t + 1 + 1))) (a.drop (x + c)) (b.drop at_) ∧ newsOf S b = dn ++ newsOf (S.drop (t + 1 + 1)) (b.drop at_) ∧ cost + c + cst (expand (S.drop (t + 1 + 1))) = Dc.dc a b) := Lib.hid (by
            rcases HCA.out with ⟨h, _⟩ | ⟨_, q2, q3, q4⟩ | ⟨h, _⟩
            · omega
            · rw [List.drop_drop] at q2
              exact ⟨q2, q3, q4⟩
            · omega)
          clear HCA
          go_wp2_with fail
          go_quiet (fail)
          go_wp2_with fail
          go_roundw
          case rel => exact ⟨t + 1 + 1, at_, cost + c, x + c, dn, by omega, by omega, by go_num, rfl, by go_num, HQ.out.1, HQ.out.2.1, HQ.out.2.2, HO.out, below_drewN hbel _⟩
          case measure => simp [intOf]; omega
        · have HQ : Hid (okK (expand (S.drop (t + 1 + 1))) (a.drop x) (b.drop (at_ + c)) ∧ newsOf S b = (dn ++ (b.drop at_).take c) ++ newsOf (S.drop (t + 1 + 1)) (b.drop (at_ + c)) ∧ cost + c + cst (expand (S.drop (t + 1 + 1))) = Dc.dc a b) := Lib.hid (by
            rcases HCA.out with ⟨h, _⟩ | ⟨h, _⟩ | ⟨_, q1, q2, q3, q4⟩
            · omega
            · omega
            · rw [List.drop_drop] at q2
              rw [List.drop_drop] at q3
              exact ⟨q2, q3, q4⟩)
          clear HCA
          have zB := SRB.below (SRB.of sb) hbel
          obtain ⟨bB, oB, rfl⟩ := zB.plain (by omega)
          have zd := zB.drop (k := at_) hat
          rw [if_neg (show ¬ c1 = at_ by omega)] at zd
          simp only [Option.map_some, add_plain] at zd
          rw [← List.length_drop] at zd
          have zh := SRB.head zd (k := c) (by rw [List.length_drop]; omega)
          have ZH := Lib.hid zh
          clear zh zd zB
          have j0 : (at_ : Int) + (c : Int) ≤ (c1 : Int) := by omega
          have j1 : at_ < c1 := by omega
          go_wp2_with fail
          go_quiet (fail)
          have ow := own_below HO.out (below_drewN (Below.refl _ _) nq)
          have rw' := (ZH.out.below (below_drewN (Below.refl _ _) nq))
          have kw := below_drewN hbel nq
          have s0' : (wr.drewN nq).cell? _ = _ := s0
          have s1' : (wr.drewN nq).cell? _ = _ := s1
          have HOW := Lib.hid ow
          have HRW := Lib.hid rw'
          have HKW := Lib.hid kw
          clear ow rw' kw s0 s1 ZH HO
          generalize wr.drewN nq = V at *
          clear hbel
          go_wp2_with (at_builtin; refine wpList_append_any _ rfl (.tmp 89) (.tmp 99) _ rfl w5.heap.size 9 iS _ 1 16 Try.underlying44 hi hz0 hz1 hz2 rfl (by decide) u12 dn.length (dn.map .string) rfl HOW.out w5.heap.size _ (at_ + c - at_) _ (((b.drop at_).take c).map .string) rfl (by rw [Nat.add_sub_cancel_left]; exact HRW.out) (strs_one _) (by unfold maxLen; omega) (by omega) HKW.out.size ?_; rw [Nat.add_sub_cancel_left])
          intro v9 w9 own9 g9 _
          have k9 : Below w5.heap.size V w9 := (Below.refl _ _).grown g9 HKW.out.size (fun g hg => (HOW.out.lt g hg).1)
          have kk := HKW.out.trans k9
          have e0 : w9.cell? ⟨b2, o2 + (t + 1) * 2, none⟩ = some (.int .i64 3) := (k9.cell (p := ⟨b2, o2 + (t + 1) * 2, none⟩) hB2).trans s0'
          have e1 : w9.cell? ⟨b2, o2 + (t + 1) * 2 + 1, none⟩ = some (.int .i64 (c : Int)) := (k9.cell (p := ⟨b2, o2 + (t + 1) * 2 + 1, none⟩) hB2).trans s1'
          obtain ⟨dn9, hdn9⟩ : ∃ d, d = dn ++ (b.drop at_).take c := ⟨_, rfl⟩
          have hl9 : dn9.length = dn.length + c := by rw [hdn9]; simp; omega
          have hm9 : dn9.map Value.string = dn.map .string ++ ((b.map Value.string).drop at_).take c := by rw [hdn9, List.map_append, List.map_take, List.map_drop]
          rw [← hl9, ← hm9] at own9
          rw [← hdn9] at HQ
          have HO9 := Lib.hid own9
          clear own9 g9 k9 s0' s1' HOW HRW HKW hdn9 hl9 hm9
          go_wp2_with fail
          go_roundw
          case rel => exact ⟨t + 1 + 1, at_ + c, cost + c, x, dn9, by omega, by omega, by first | rfl | go_num, by first | rfl | go_num, by first | rfl | go_num, HQ.out.1, HQ.out.2.1, HQ.out.2.2, HO9.out, kk⟩
          case measure => simp [intOf]; omega
    · obtain rfl : i = S.length := by omega
      have HN : Hid (newsOf S b = dn) := Lib.hid (by rw [hnw, List.drop_length]; first | (simp [newsOf]; done) | exact List.append_nil dn)
      have HCQ : Hid (cost = Dc.dc a b) := Lib.hid (by rw [List.drop_length] at hco; exact hco)
      have HO := Lib.hid hown
      have sa' := sa.later hbel
      have sb' := sb.later hbel
      have HSS' := HSS.out.later hbel
      have kk := bstep hb5 hbel
      have sn := SRow.of_own hown
      have HOK2 := HOKP.out
      rw [HN.out] at HOK2
      clear hok hnw hco hown
      go_wp2_with fail
      refine (HPT.out _ _ _ _ _ sa' HSS' sn HOK2 hdl).mono ?_
      rintro e w7 ⟨vp, rfl, sp, hb7⟩
      replace sa' := sa'.later hb7
      replace sb' := sb'.later hb7
      replace kk := bstep kk hb7
      clear hb7 HSS' sn HOK2
      go_wp2_with fail
      refine (texts_any _ _ b b _ sp sb').mono ?_
      rintro e w8 ⟨rfl, hb8⟩
      replace sa' := sa'.later hb8
      replace sb' := sb'.later hb8
      replace kk := bstep kk hb8
      clear hb8 sp
      rw [decide_eq_true (rfl : b = b)]
      go_wp2_with fail
      refine (HCS.out _ _ _ sa' sb').mono ?_
      rintro e w9 ⟨rfl, hb9⟩
      rw [← HCQ.out]
      go_wp2_with fail
      go_ret
      exact ⟨ret_bool (by simp), bstep kk hb9⟩
end Go.Proofs.Ytpbpdglabeoehaa
