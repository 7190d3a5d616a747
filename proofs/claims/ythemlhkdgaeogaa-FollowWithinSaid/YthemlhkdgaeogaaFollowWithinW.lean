/-
  The walk of FollowWithin: at every input it returns true, and nothing that was there is changed.
-/
import Derived.Test.YthemlhkdgaeogaaFolP
import Derived.Test.YthemlhkdgaeogaaSpanS
import Derived.Test.YthemlhkdgaeogaaCopy
import Derived.Test.YthemlhkdgaeogaaOrdC
import Derived.Test.YthemlhkdgaeogaaReg
import Derived.BigQuiet
import Derived.Deep.QuietTactic
namespace Go.Proofs.Ythemlhkdgaeogaa
open Go.RowKit
set_option linter.unusedVariables false
set_option linter.unusedSimpArgs false

set_option maxRecDepth 100000 in
set_option maxHeartbeats 16000000 in
theorem followWithin_walk (w : World) (v0 : Value) (xs : List Int) (h0 : Row .i64 w v0 xs) (v1 : Value) (ys : List Int) (h1 : Row .i64 w v1 ys) (z : Chg × Value × Value × Value) (h2 : Chg1 w z.2.1 z.2.2.1 z.2.2.2 z.1) :
    Calls Try.prog 6 #[v0, v1, .agg #[z.2.1, z.2.2.1, z.2.2.2]] w fun e w' => e = .returned (.bool true) ∧ Below w.heap.size w w' := by
  obtain ⟨x, u0, u1, u2⟩ := z
  simp only at h2 ⊢
  have hal := (Below.refl w.heap.size w).alloc (Nat.le_refl w.heap.size) (.cells #[u0, u1, u2] 24)
  have HT := Lib.hid (textOf_any v0 xs 80 _ (h0.later hal) (by omega) (by omega))
  have H1 := Lib.hid (h1.later hal)
  have H2 := Lib.hid (h2.later hal)
  have BC := Blk.new w 24 #[u0, u1, u2]
  have hgc : w.heap.size < (w.alloc (.cells #[u0, u1, u2] 24)).heap.size := by simp
  have HAL := Lib.hid hal
  obtain ⟨A0, c0, rfl, _⟩ := h0
  obtain ⟨A1, c1, rfl, _⟩ := h1
  clear h2 hal
  go_enter Try.func6, Try.ntmps6
  go_wp2_with fail
  generalize (w.alloc (.cells #[u0, u1, u2] 24)) = W at *
  refine HT.out.mono ?_
  rintro e w1 ⟨s, rfl, es0, rfl⟩
  have hsn := text_len _ _ _ es0
  simp only [show Int.toNat 80 = 80 from rfl] at hsn
  clear es0 HT
  have b0 : W.cell? ⟨w.heap.size, 0, none⟩ = some u0 := BC.cell 0
  have b1 : W.cell? ⟨w.heap.size, 1, none⟩ = some u1 := BC.cell 1
  have b2 : W.cell? ⟨w.heap.size, 2, none⟩ = some u2 := BC.cell 2
  have HE := Lib.hid (editOf_any x u0 u1 u2 s.size _ H2.out (by omega))
  clear BC hgc
  go_wp2_with fail
  refine HE.out.mono ?_
  rintro e w3 ⟨d, rfl, hd1, hd2, hd3, hb3⟩
  obtain ⟨p, c, put⟩ := d
  simp only at hd1 hd2 hd3 ⊢
  have BX := Blk.new w3 29 #[.int .i64 (p : Int), .int .i64 (c : Int), .string put]
  have hb3' := hb3.alloc hb3.size (.cells #[.int .i64 (p : Int), .int .i64 (c : Int), .string put] 29)
  have HB3 := Lib.hid (bstep HAL.out hb3')
  have HC := Lib.hid (cursors_any _ ys 15 s.size _ (H1.out.later hb3') (by omega) (by omega))
  have hgx := BX.lt
  clear b0 b1 b2 hb3 hb3' HE H2 H1 HAL
  go_wp2_with fail
  generalize w3.alloc (.cells #[.int .i64 (p : Int), .int .i64 (c : Int), .string put] 29) = w2 at *
  generalize w3.heap.size = gx at *
  refine HC.out.mono ?_
  rintro e w4 ⟨v4, cs, rfl, ho4, hu4, hl4, hb4⟩
  have BX4 := BX.below hb4 hgx
  have HB4 := Lib.hid (bstep HB3.out hb4)
  have HU4 := Lib.hid hu4
  have HN := Lib.hid (norms_any s.size v4 cs w4 _ ho4 (by omega) (by omega) hu4)
  obtain ⟨A4, c4, rfl, hc41, hc42⟩ := own_slice ho4
  clear ho4 hb4 HC BX hu4 HB3
  go_wp2_with fail
  refine HN.out.mono ?_
  rintro e w5 ⟨v5, l, rfl, ho5, hi5, hb5⟩
  have hll := hi5.len.1
  have HAP := Lib.hid hi5.apt
  have HUL := Lib.hid (hi5.upto HU4.out)
  have BX5 := BX4.below hb5 BX4.lt
  have HB5 := Lib.hid (bstep HB4.out hb5)
  have HO5 := Lib.hid ho5
  have hgx5 := BX5.lt
  obtain ⟨A5, c5, rfl, hc51, hc52⟩ := own_slice ho5
  clear ho5 hi5 hb5 HN BX4 HB4 HU4 hgx hc41 hc42
  go_wp2_with fail
  refine wp_region_ph [([0, 1, 2, 4], [3]), ([], [5]), ([6, 7, 8, 9, 10], [])] (fun w' => Below w5.heap.size w5 w') (by kernel_rfl) (by kernel_rfl) (fun _ _ h1 h2 => bstep h1 h2) (by repeat' (first | exact Below.refl _ _ | apply below_drewN)) ?_
  intro ι F hne hF W0 hW0 hI0
  have c0 : ∀ i, (F i).cell? ⟨gx, 0, none⟩ = some (.int .i64 (p : Int)) := fun i => (BX5.below (hF i) hgx5).cell 0
  have c1 : ∀ i, (F i).cell? ⟨gx, 1, none⟩ = some (.int .i64 (c : Int)) := fun i => (BX5.below (hF i) hgx5).cell 1
  have c2 : ∀ i, (F i).cell? ⟨gx, 2, none⟩ = some (.string put) := fun i => (BX5.below (hF i) hgx5).cell 2
  (refine wpPh_cons ?_; simp only [pickOps, List.getElem?_cons_succ, List.getElem?_cons_zero])
  repeat (refine wpB_step (fun K hK => ?_); go_simp; first | (refine hK _ ?_; clear hK K) | (apply Exists.intro; refine ⟨fun _ => ?_, hK _ ?_⟩; (fail); clear hK K))
  refine wpB_nil ?_
  intro w6 hw6 hI6
  have HI6 := Lib.hid hI6
  clear c0 c1 c2 hw6 hI6 hF
  have HRL := Lib.hid (Reads.of_own (own_below HO5.out HI6.out))
  refine wpRB_copy rfl (.tmp 37) _ rfl 46 _ 2 16 Try.underlying43 cur_info rfl (by decide) A5 l.length _ (cellsOf spc l) rfl HRL.out (cellsOf_oneCell spc_one l) (by omega) (by omega) ?_
  intro v7 w7 ho7 hb7
  have HI7 := Lib.hid (bstep HI6.out hb7)
  refine ⟨HI7.out, ?_⟩
  intro w8 hw8 hI8
  have HO8 := Lib.hid (own_below ho7 hw8)
  have HI8 := Lib.hid hI8
  clear ho7 hb7 hw8 hI8
  refine wpRB_nil ?_
  (refine wpPh_cons ?_; simp only [pickOps, List.getElem?_cons_succ, List.getElem?_cons_zero])
  repeat (refine wpB_step (fun K hK => ?_); go_simp; first | (refine hK _ ?_; clear hK K) | (apply Exists.intro; refine ⟨fun _ => ?_, hK _ ?_⟩; (fail); clear hK K))
  refine wpB_nil ?_
  intro w9 hw9 hI9
  have HO9 := Lib.hid (own_below HO8.out hw9)
  have HI9 := Lib.hid hI9
  clear hw9 hI9
  refine wpRB_step (fun K hK => ?_)
  go_simp
  refine (follow_any s.size v7 l p c put w9 w6.heap.size HO9.out (by omega) (by omega) HUL.out hd1 hd3).mono ?_
  rintro e w10 ⟨v10, o, rfl, ho10, hin, hb10⟩
  have HI10 := Lib.hid (bstep HI9.out hb10)
  refine ⟨_, rfl, hK _ _ ⟨HI10.out, ?_⟩⟩
  clear hK K
  intro w11 hw11 hI11
  have HO11 := Lib.hid (own_below ho10 hw11)
  have HI11 := Lib.hid hI11
  have HIN := Lib.hid hin
  obtain ⟨A10, c10, rfl, hA101, hA102⟩ := own_slice ho10
  clear hw11 hI11 ho10 hb10 hin
  refine wpRB_nil ?_
  (refine wpPh_cons ?_; simp only [pickOps, List.getElem?_cons_succ, List.getElem?_cons_zero])
  repeat (refine wpB_step (fun K hK => ?_); go_simp; first | (refine hK _ ?_; clear hK K) | (apply Exists.intro; refine ⟨fun _ => ?_, hK _ ?_⟩; (fail); clear hK K))
  refine wpB_nil ?_
  intro w12 hw12 hI12
  have HO12 := Lib.hid (own_below HO11.out hw12)
  have HI12 := Lib.hid hI12
  clear hw12 hI12
  refine wpRB_nil ?_
  refine wpPh_nil ?_
  have HL12 := Lib.hid (own_below HO5.out HI12.out)
  have HB12 := Lib.hid (bstep HB5.out HI12.out)
  have BX12 := BX5.below HI12.out hgx5
  clear hne F hI0 hW0 HO5 HO8 HO9 HO11 HI6 HI7 HI8 HI9 HI10 HI11 HI12 HB5 BX5 HRL hgx5
  have y0 : w12.cell? ⟨gx, 0, none⟩ = some (.int .i64 (p : Int)) := BX12.cell 0
  have y1 : w12.cell? ⟨gx, 1, none⟩ = some (.int .i64 (c : Int)) := BX12.cell 1
  have y2 : w12.cell? ⟨gx, 2, none⟩ = some (.string put) := BX12.cell 2
  have hE : EdRow (w12.alloc (.cells #[.int .i64 (p : Int), .int .i64 (c : Int), .string put] 29)) (.slice (some ⟨w12.heap.size, 0, none⟩) 1 1) [⟨p, c, put⟩] := EdRow.lit _ 29 [⟨p, c, put⟩] (show 1 ≤ maxLen by decide)
  have HA := Lib.hid (apply_any s _ [⟨p, c, put⟩] _ hE (by omega) (show 1 ≤ 60 by decide) (by intro e he; simp at he; subst he; show put.size ≤ 600; omega) (show okr s.size [⟨p, c, put⟩] from ⟨by show p + c ≤ s.size; omega, by show s.size + put.size - c ≤ 600; omega, trivial⟩))
  have HAL := Lib.hid ((Below.refl w12.heap.size w12).alloc (Nat.le_refl _) (.cells #[.int .i64 (p : Int), .int .i64 (c : Int), .string put] 29))
  clear hE
  go_wp2_with fail
  refine HA.out.mono ?_
  rintro e w13 ⟨rfl, hb13⟩
  have hba := bstep HAL.out hb13
  have HB13 := Lib.hid (bstep HB12.out hba)
  have HO13 := Lib.hid (own_below HO12.out hba)
  have HL13 := Lib.hid (own_below HL12.out hba)
  have BX13 := BX12.below hba BX12.lt
  have ht : rn s [⟨p, c, put⟩] = mk s ⟨p, c, put⟩ := rfl
  have hts := mk_size s ⟨p, c, put⟩ hd1
  rw [ht]
  simp only at hts
  generalize mk s ⟨p, c, put⟩ = t at *
  have HTS := Lib.hid hts
  have hti : t.size ≤ 100 := by omega
  clear ht y0 y1 y2 hb13 hba HA HAL BX12 HB12 HO12 HL12 hts
  have HLIT := Lib.hid (own_lit w13 46 [⟨1, 2⟩] (show 1 ≤ maxLen by decide))
  have hn1 := norms_any 3 (.slice (some ⟨w13.heap.size, 0, none⟩) 1 1) [⟨1, 2⟩] _ _ HLIT.out (show 1 ≤ 19 by decide) (by omega) (fun c hc => by rw [List.mem_singleton] at hc; subst hc; exact ⟨by decide, by decide⟩)
  have hn1' : Calls Try.prog 21 #[.int .i64 3, .slice (some ⟨w13.heap.size, 0, none⟩) 1 1] (w13.alloc (.cells #[.int .i64 1, .int .i64 2] 46)) (NormsPost [⟨1, 2⟩] (w13.alloc (.cells #[.int .i64 1, .int .i64 2] 46))) := hn1
  have HN1 := Lib.hid hn1'
  have HALL := Lib.hid ((Below.refl w13.heap.size w13).alloc (Nat.le_refl _) (.cells #[.int .i64 1, .int .i64 2] 46))
  clear hn1 hn1' HLIT
  go_wp2_with fail
  refine HN1.out.mono ?_
  rintro e w14 ⟨v14, o1, rfl, ho14, h1n, hb14⟩
  have hl1 := h1n.one
  obtain ⟨A14, c14, hv14, _, _⟩ := own_slice ho14
  rw [hl1] at hv14
  subst hv14
  have hba := bstep HALL.out hb14
  have HB14 := Lib.hid (bstep HB13.out hba)
  have HO14 := Lib.hid (own_below HO13.out hba)
  have HL14 := Lib.hid (own_below HL13.out hba)
  have BX14 := BX13.below hba BX13.lt
  have hol := HIN.out.len.1
  rw [List.length_map] at hol
  obtain ⟨zb, hz1, hz2⟩ : ∃ zb : Bool, ((o.length : Int) == 0) = zb ∧ ((l.length : Int) == 0) = zb := by
    refine ⟨_, rfl, ?_⟩
    rw [Bool.eq_iff_iff, beq_iff_eq, beq_iff_eq]
    have h9 := HIN.out.len.2
    rw [← List.length_eq_zero_iff, ← List.length_eq_zero_iff, List.length_map] at h9
    omega
  have hgt : decide (l.length < o.length) = false := decide_eq_false (by omega)
  have HOU : Hid (Upto t.size o) := Lib.hid (by
    rw [HTS.out]
    refine HIN.out.upto (fun x hx => ?_)
    obtain ⟨y, hy, rfl⟩ := List.mem_map.1 hx
    have h1 := HUL.out y hy
    exact ⟨mv_le p c put.size y.lo s.size hd1 h1.1, mv_le p c put.size y.hi s.size hd1 h1.2⟩)
  have HST := Lib.hid (fun k hk hkc hp => stays HAP.out HIN.out k hk hkc hp)
  clear ho14 h1n hl1 hba hb14 HN1 HALL HB13 HO13 HL13 BX13
  go_wp2_with fail
  clear hz1 hz2 hgt
  go_loopw [17] (fun vi wq => ∃ i q : Nat, vi = .int .i64 i ∧ i ≤ o.length ∧ wq = w14.drewN q) (fun vi _ => o.length - (intOf vi).toNat)
  case atStart => exact ⟨0, 0, rfl, Nat.zero_le _, rfl⟩
  case round =>
    obtain ⟨i, q, rfl, hin, rfl⟩ := hrel
    by_cases hlt : i < o.length
    · have hlc : i < l.length := by omega
      obtain ⟨go, cago, hvago, _, hgalgo⟩ := HO14.out.form (by omega)
      injection hvago with e1 _ e3
      subst e1
      subst e3
      have c0go := HO14.out.cells (g := go) rfl (i * 2 + 0) _ ((cellsOf_at spc_len o i hlt 0 (by decide)).trans rfl)
      have c1go := HO14.out.cells (g := go) rfl (i * 2 + 1) _ ((cellsOf_at spc_len o i hlt 1 (by decide)).trans rfl)
      rw [add_head] at c0go c1go
      replace c0go : w14.cell? ⟨go, i * 2, none⟩ = some (.int .i64 (o[i].lo : Int)) := c0go
      replace c1go : w14.cell? ⟨go, i * 2 + 1, none⟩ = some (.int .i64 (o[i].hi : Int)) := c1go
      obtain ⟨gl, cagl, hvagl, _, hgalgl⟩ := HL14.out.form (by omega)
      injection hvagl with e1 _ e3
      subst e1
      subst e3
      have c0gl := HL14.out.cells (g := gl) rfl (i * 2 + 0) _ ((cellsOf_at spc_len l i hlc 0 (by decide)).trans rfl)
      have c1gl := HL14.out.cells (g := gl) rfl (i * 2 + 1) _ ((cellsOf_at spc_len l i hlc 1 (by decide)).trans rfl)
      rw [add_head] at c0gl c1gl
      replace c0gl : w14.cell? ⟨gl, i * 2, none⟩ = some (.int .i64 (l[i].lo : Int)) := c0gl
      replace c1gl : w14.cell? ⟨gl, i * 2 + 1, none⟩ = some (.int .i64 (l[i].hi : Int)) := c1gl
      have d0 : w14.cell? ⟨gx, 0, none⟩ = some (.int .i64 (p : Int)) := BX14.cell 0
      have hmx := max_chi l[i]
      have hou := HOU.out o[i] (List.getElem_mem hlt)
      have hi0 : (0 : Int) ≤ (i : Int) := by omega
      have hi1 : (i : Int) < (o.length : Int) := by omega
      have hi2 : (i : Int) < (l.length : Int) := by omega
      have n0 : ¬ (o[i].lo : Int) < 0 := by omega
      have n1 : decide (t.size < o[i].lo) = false := decide_eq_false (by omega)
      have n2 : ¬ (o[i].hi : Int) < 0 := by omega
      have n3 : decide (t.size < o[i].hi) = false := decide_eq_false (by omega)
      have n0' : decide ((o[i].lo : Int) < 0) = false := decide_eq_false (by omega)
      have n2' : decide ((o[i].hi : Int) < 0) = false := decide_eq_false (by omega)
      by_cases hp : chi l[i] < p
      · have he := HST.out i hlt hlc hp
        have hpd : decide (chi l[i] < p) = true := decide_eq_true hp
        rw [he] at c0go c1go n0 n1 n2 n3 n0' n2'
        clear he hou hp
        generalize chi l[i] = ch at *
        generalize l[i].lo = a at *
        generalize l[i].hi = b at *
        go_wp2_with fail
        go_quiet (fail)
        go_wp2_with fail
        refine ⟨⟨i + 1, _, by go_num, by omega, rfl⟩, by simp [intOf]; omega⟩
      · have hpd : decide (chi l[i] < p) = false := decide_eq_false hp
        clear hou hp
        generalize chi l[i] = ch at *
        generalize l[i].lo = a at *
        generalize l[i].hi = b at *
        generalize o[i].lo = a' at *
        generalize o[i].hi = b' at *
        go_wp2_with fail
        go_quiet (fail)
        go_wp2_with fail
        refine ⟨⟨i + 1, _, by go_num, by omega, rfl⟩, by simp [intOf]; omega⟩
    · obtain rfl : i = o.length := by omega
      go_wp2_with fail
      go_ret
      exact ⟨rfl, below_drewN HB14.out _⟩
end Go.Proofs.Ythemlhkdgaeogaa
