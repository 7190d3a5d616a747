/-
  The walk of TypeEdits: at every input it returns true, and nothing that was there is changed.
-/
import Derived.Test.YthemlhkdgaeogaaTyp
import Derived.Test.YthemlhkdgaeogaaCurM
import Derived.Test.YthemlhkdgaeogaaCopy
import Derived.Test.YthemlhkdgaeogaaMix
import Derived.Test.YthemlhkdgaeogaaOrdC
import Derived.BigQuiet
import Derived.Deep.QuietTactic
namespace Go.Proofs.Ythemlhkdgaeogaa
open Go.RowKit
set_option linter.unusedVariables false
set_option linter.unusedSimpArgs false

theorem ed_one (e : Ed) : ∀ u ∈ [Value.int .i64 (e.p : Int), .int .i64 (e.c : Int), .string e.put], u.oneCell' = true := by
  intro u hu; simp at hu; rcases hu with rfl | rfl | rfl <;> rfl
theorem rev_take (l : List Sp) (p : ByteArray) (m : Nat) (hm : m < l.length) : ((l.reverse.take (l.length - m)).map (edC p)) = ((l.reverse.take (l.length - (m + 1))).map (edC p)) ++ [edC p l[m]] := by
  have h1 : l.length - (m + 1) < l.reverse.length := by rw [List.length_reverse]; omega
  rw [show l.length - m = l.length - (m + 1) + 1 by omega, List.take_succ_eq_append_getElem h1, List.map_append, List.getElem_reverse]
  simp only [List.map_cons, List.map_nil]
  congr 3
  all_goals first | rfl | (congr 1; omega) | omega
theorem rev_len (l : List Sp) (p : ByteArray) (m : Nat) : ((l.reverse.take (l.length - m)).map (edC p)).length = l.length - m := by
  rw [List.length_map, List.length_take, List.length_reverse]; omega
theorem outs_at (s p : ByteArray) (l : List Sp) (k i : Nat) (hi : i < (outs s p l k).length) : (outs s p l k)[i] = ⟨(tfold s p (l.take (i + 1))).1.size, (tfold s p (l.take (i + 1))).1.size⟩ := by simp [outs]
set_option maxRecDepth 100000 in
set_option maxHeartbeats 16000000 in
theorem typeEdits_walk (w : World) (v0 : Value) (xs : List Int) (h0 : Row .i64 w v0 xs) (v1 : Value) (ys : List Int) (h1 : Row .i64 w v1 ys) (v2 : Value) (zs : List Int) (h2 : Row .i64 w v2 zs) :
    Calls Try.prog 5 #[v0, v1, v2] w fun e w' => e = .returned (.bool true) ∧ Below w.heap.size w w' := by
  have HT := Lib.hid (textOf_any v0 xs 80 w h0 (by omega) (by omega))
  have HP := Lib.hid (textOf_any v2 zs 5 w h2 (by omega) (by omega))
  have H1 := Lib.hid h1
  obtain ⟨A0, c0, rfl, _⟩ := h0
  obtain ⟨A1, c1, rfl, _⟩ := h1
  obtain ⟨A2, c2, rfl, _⟩ := h2
  go_enter Try.func5, Try.ntmps5
  go_wp2_with fail
  refine HT.out.mono ?_
  rintro e w1 ⟨s, rfl, es0, rfl⟩
  have hsn := text_len _ _ _ es0
  simp only [show Int.toNat 80 = 80 from rfl] at hsn
  clear es0 HT
  go_wp2_with fail
  refine HP.out.mono ?_
  rintro e w1 ⟨p, rfl, es0, rfl⟩
  have hpn := text_len _ _ _ es0
  simp only [show Int.toNat 5 = 5 from rfl] at hpn
  clear es0 HP
  have HC := Lib.hid (cursors_any _ ys 15 s.size _ H1.out (by omega) (by omega))
  go_wp2_with fail
  refine HC.out.mono ?_
  rintro e w4 ⟨v4, cs, rfl, ho4, hu4, hl4, hb4⟩
  have HB4 := Lib.hid hb4
  have HU4 := Lib.hid hu4
  have HN := Lib.hid (norms_any s.size v4 cs w4 _ ho4 (by omega) (by omega) hu4)
  obtain ⟨A4, c4, rfl, hc41, hc42⟩ := own_slice ho4
  clear ho4 hb4 HC hu4 H1
  go_wp2_with fail
  refine HN.out.mono ?_
  rintro e w5 ⟨v5, l, rfl, ho5, hi5, hb5⟩
  have hll := hi5.len.1
  have hap := hi5.apt
  have hul := hi5.upto HU4.out
  have HAP := Lib.hid hap
  have HUL := Lib.hid hul
  have HB5 := Lib.hid (bstep HB4.out hb5)
  have HO5 := Lib.hid ho5
  obtain ⟨A5, c5, rfl, hc51, hc52⟩ := own_slice ho5
  have HRL := Lib.hid (Reads.of_own HO5.out)
  clear ho5 hi5 hb5 HN HB4 HU4 hc41 hc42
  go_wp2_with (at_builtin; go_loud (refine wpList_copy rfl (.tmp 40) _ rfl 46 _ 2 16 Try.underlying43 cur_info rfl (by decide) A5 l.length _ (cellsOf spc l) rfl HRL.out (cellsOf_oneCell spc_one l) (by omega) (by omega) ?_; intro v6 w6 ho6 hb6; have HO6 := Lib.hid ho6; have HB6 := Lib.hid hb6; clear ho6 hb6))
  refine (type_any s p v6 l w6 w5.heap.size HO6.out (by omega) (by omega) (by omega) hap hul).mono ?_
  rintro e w7 ⟨v7, rfl, ho7, hb7⟩
  have HO7 := Lib.hid ho7
  have HB7 := Lib.hid (bstep (bstep HB5.out HB6.out) hb7)
  have HL7 := Lib.hid (own_below (own_below HO5.out HB6.out) hb7)
  have HTE := Lib.hid (typed_edits p l s hap (fun a h => chi_le (hul a h)))
  have hlp : l.length * p.size ≤ 15 * 5 := Nat.mul_le_mul (by omega) (by omega)
  have HOK := Lib.hid (okr_typed p l s.size hap (fun a h => chi_le (hul a h)) (by omega))
  have HTA := Lib.hid (fun k hk => typed_at s p l k hk)
  have hts := typed_size s p l hap hul
  have HTS := Lib.hid hts
  have HRT := Lib.hid (fun m hm => rev_take l p m hm)
  have HRN := Lib.hid (fun m => rev_len l p m)
  have HOL := Lib.hid (outs_len s p l l.length)
  obtain ⟨A7, c7, hv7, hc71, hc72⟩ : ∃ A c, v7 = .slice A l.length c ∧ l.length ≤ c ∧ c ≤ maxLen := own_slice HO7.out
  subst hv7
  clear ho7 hb7 HB5 HO5 HB6 HO6 HRL hap hul hlp hts
  generalize typed s p l = t at *
  go_wp2_with fail
  go_loopw [14, 15, 16] (fun vo vi _ wr => ∃ m : Nat, m ≤ l.length ∧ vi = .int .i64 ((m : Int) - 1) ∧ wr.ownsRow w7.heap.size 29 3 vo (l.length - m) (edCells ((l.reverse.take (l.length - m)).map (edC p))) ∧ Below w7.heap.size w7 wr) (fun _ vi _ _ => (intOf vi + 1).toNat)
  case atStart => exact ⟨l.length, Nat.le_refl _, by go_num, by rw [Nat.sub_self]; exact World.ownsRow_nil _ _ _ _, Below.refl _ _⟩
  case round =>
    obtain ⟨m, hm, rfl, hown, hb⟩ := hrel
    have hbs := hb.size
    obtain ⟨Ao, co, rfl, ho1, ho2⟩ := own_slice hown
    rcases m with _ | m
    · rw [Nat.sub_zero] at hown ho1
      rw [Nat.sub_zero]
      have htk : l.reverse.take l.length = l.reverse := List.take_of_length_le (by rw [List.length_reverse]; exact Nat.le_refl _)
      rw [htk] at hown
      have hrl : (l.reverse.map (edC p)).length = l.length := by rw [List.length_map, List.length_reverse]
      have hER : EdRow wr (.slice Ao l.length co) (l.reverse.map (edC p)) := EdRow.of_own (e := 29) (base := w7.heap.size) (by rw [hrl]; exact hown)
      have HAP2 := Lib.hid (apply_any s _ _ wr hER (by omega) (by omega) (by
        intro e he
        obtain ⟨y, hy, rfl⟩ := List.mem_map.1 he
        show p.size ≤ 600; omega) HOK.out)
      have HB8 := Lib.hid (bstep HB7.out hb)
      have HO8 := Lib.hid (own_below HO7.out hb)
      clear hown hb htk hrl hER
      go_wp2_with fail
      refine HAP2.out.mono ?_
      rintro e w8 ⟨rfl, hb8⟩
      rw [← HTE.out]
      have HB9 := Lib.hid (bstep HB8.out hb8)
      have HO9 := Lib.hid (own_below HO8.out hb8)
      clear hb8 HAP2 HO7 HB7 HL7 HO8 HB8
      have HLIT := own_lit w8 46 [⟨1, 1⟩] (show 1 ≤ maxLen by decide)
      have hn1 := type_any ⟨#[97, 99]⟩ ⟨#[98]⟩ (.slice (some ⟨w8.heap.size, 0, none⟩) 1 1) [⟨1, 1⟩] _ _ HLIT (show 1 ≤ 19 by decide) (by decide) (by decide) trivial (fun c hc => by rw [List.mem_singleton] at hc; subst hc; exact ⟨by decide, by decide⟩)
      have hn1' : Calls Try.prog 22 #[.string ⟨#[97, 99]⟩, .slice (some ⟨w8.heap.size, 0, none⟩) 1 1, .string ⟨#[98]⟩] (w8.alloc (.cells #[.int .i64 1, .int .i64 1] 46)) (TypePost ⟨#[97, 99]⟩ ⟨#[98]⟩ [⟨1, 1⟩] (w8.alloc (.cells #[.int .i64 1, .int .i64 1] 46))) := hn1
      have HN1 := Lib.hid hn1'
      have HALL := Lib.hid ((Below.refl w8.heap.size w8).alloc (Nat.le_refl _) (.cells #[.int .i64 1, .int .i64 1] 46))
      have HABC : Hid (typed ⟨#[97, 99]⟩ ⟨#[98]⟩ [⟨1, 1⟩] = ⟨#[97, 98, 99]⟩) := Lib.hid (by apply bytes_ext; rfl)
      clear hn1 hn1' HLIT
      go_wp2_with fail
      refine HN1.out.mono ?_
      rintro e w10 ⟨v10, rfl, ho10, hb10⟩
      rw [HABC.out]
      have hba := bstep HALL.out hb10
      have HB11 := Lib.hid (bstep HB9.out hba)
      have HO11 := Lib.hid (own_below HO9.out hba)
      obtain ⟨A10, c10, hv10, _, _⟩ : ∃ A c, v10 = .slice A 1 c ∧ 1 ≤ c ∧ c ≤ maxLen := own_slice ho10
      subst hv10
      clear ho10 hba hb10 HN1 HALL HB9 HO9
      go_wp2_with fail
      go_loopw [22, 23] (fun vi _ wq => ∃ i q : Nat, vi = .int .i64 i ∧ i ≤ l.length ∧ wq = w10.drewN q) (fun vi _ _ => l.length - (intOf vi).toNat)
      case atStart => exact ⟨0, 0, rfl, Nat.zero_le _, rfl⟩
      case round =>
        obtain ⟨i, q, rfl, hin, rfl⟩ := hrel
        by_cases hlt : i < l.length
        · have hio : i < (outs s p l l.length).length := by rw [HOL.out]; exact hlt
          obtain ⟨g, cg, hvg, _, hgal⟩ := HO11.out.form (by omega)
          injection hvg with e1 _ e3
          subst e1
          subst e3
          have c0 := HO11.out.cells (g := g) rfl (i * 2 + 0) _ ((cellsOf_at spc_len _ i hio 0 (by decide)).trans rfl)
          have c1 := HO11.out.cells (g := g) rfl (i * 2 + 1) _ ((cellsOf_at spc_len _ i hio 1 (by decide)).trans rfl)
          rw [add_head, outs_at] at c0 c1
          replace c0 : w10.cell? ⟨g, i * 2, none⟩ = some (.int .i64 ((tfold s p (l.take (i + 1))).1.size : Int)) := c0
          replace c1 : w10.cell? ⟨g, i * 2 + 1, none⟩ = some (.int .i64 ((tfold s p (l.take (i + 1))).1.size : Int)) := c1
          obtain ⟨t1, t2, t3, t4⟩ := HTA.out i hlt
          have hts := HTS.out
          have hlp : l.length * p.size ≤ 15 * 5 := Nat.mul_le_mul (by omega) (by omega)
          have hi0 : (0 : Int) ≤ (i : Int) := by omega
          have hi1 : (i : Int) < (l.length : Int) := by omega
          rcases i with _ | i
          · generalize (tfold s p (l.take (0 + 1))).1.size = n at *
            have g1 : decide (n < p.size) = false := decide_eq_false (by omega)
            have g2 : decide (t.size < n) = false := decide_eq_false (by omega)
            have hsub : (n : Int) - (p.size : Int) = ((n - p.size : Nat) : Int) := by omega
            have g3 : (0 : Int) ≤ ((n - p.size : Nat) : Int) := by omega
            have g4 : ((n - p.size : Nat) : Int) ≤ (n : Int) := by omega
            have g5 : (n : Int) ≤ (t.size : Int) := by omega
            have hrn : n - p.size ≤ 200 := by omega
            generalize n - p.size = r at *
            clear t4 hlp hts
            go_wp2_with fail
            refine ⟨⟨1, _, by go_num, by omega, rfl⟩, by simp [intOf]; omega⟩
          · have hli : i < (outs s p l l.length).length := by omega
            have d1 := HO11.out.cells (g := g) rfl (i * 2 + 1) _ ((cellsOf_at spc_len _ i hli 1 (by decide)).trans rfl)
            rw [add_head, outs_at] at d1
            replace d1 : w10.cell? ⟨g, i * 2 + 1, none⟩ = some (.int .i64 ((tfold s p (l.take (i + 1))).1.size : Int)) := d1
            generalize (tfold s p (l.take (i + 1))).1.size = n0 at *
            generalize (tfold s p (l.take (i + 1 + 1))).1.size = n at *
            have g1 : decide (n < p.size) = false := decide_eq_false (by omega)
            have g2 : decide (t.size < n) = false := decide_eq_false (by omega)
            have hsub : (n : Int) - (p.size : Int) = ((n - p.size : Nat) : Int) := by omega
            have g3 : (0 : Int) ≤ ((n - p.size : Nat) : Int) := by omega
            have g4 : ((n - p.size : Nat) : Int) ≤ (n : Int) := by omega
            have g5 : (n : Int) ≤ (t.size : Int) := by omega
            have g6 : decide (n < n0) = false := decide_eq_false (by omega)
            have hpos : decide ((0 : Int) < (i : Int) + 1) = true := decide_eq_true (by omega)
            have hj0 : (0 : Int) ≤ (i : Int) := by omega
            have hj1 : (i : Int) < (l.length : Int) := by omega
            have hrn : n - p.size ≤ 200 := by omega
            generalize n - p.size = r at *
            clear t4 hlp hts
            go_wp2_with fail
            refine ⟨⟨i + 1 + 1, _, by go_num, by omega, rfl⟩, by simp [intOf]; omega⟩
        · obtain rfl : i = l.length := by omega
          go_wp2_with fail
          go_ret
          exact ⟨rfl, below_drewN HB11.out _⟩
    · have em : (((m + 1 : Nat) : Int) - 1) = (m : Int) := by omega
      rw [em]
      have hml : m < l.length := by omega
      obtain ⟨g, cg, hvg, _, hgal⟩ := HL7.out.form (by omega)
      injection hvg with e1 _ e3
      subst e1
      subst e3
      have c0 := HL7.out.cells (g := g) rfl (m * 2 + 0) _ ((cellsOf_at spc_len l m hml 0 (by decide)).trans rfl)
      have c1 := HL7.out.cells (g := g) rfl (m * 2 + 1) _ ((cellsOf_at spc_len l m hml 1 (by decide)).trans rfl)
      rw [add_head] at c0 c1
      replace c0 : w7.cell? ⟨g, m * 2, none⟩ = some (.int .i64 (l[m].lo : Int)) := c0
      replace c1 : w7.cell? ⟨g, m * 2 + 1, none⟩ = some (.int .i64 (l[m].hi : Int)) := c1
      have x0 : wr.cell? ⟨g, m * 2, none⟩ = some (.int .i64 (l[m].lo : Int)) := (hb.cell (p := ⟨g, m * 2, none⟩) hgal).trans c0
      have x1 : wr.cell? ⟨g, m * 2 + 1, none⟩ = some (.int .i64 (l[m].hi : Int)) := (hb.cell (p := ⟨g, m * 2 + 1, none⟩) hgal).trans c1
      have hmn := min_clo l[m]
      have hmx := max_chi l[m]
      have hcc := clo_le l[m]
      have hux := chi_le (HUL.out l[m] (List.getElem_mem hml))
      have hrt := HRT.out m hml
      have HED : Hid (edC p l[m] = ⟨clo l[m], chi l[m] - clo l[m], p⟩) := Lib.hid rfl
      have hone := ed_one (edC p l[m])
      rw [HED.out] at hone
      have HRTM := Lib.hid hrt
      generalize edC p l[m] = ed at *
      generalize clo l[m] = lo at *
      generalize chi l[m] = hi' at *
      generalize l[m].lo = a at *
      generalize l[m].hi = b at *
      have C0 := Lib.hid c0
      have C1 := Lib.hid c1
      have hsub : (hi' : Int) - (lo : Int) = ((hi' - lo : Nat) : Int) := by omega
      have hm0 : (0 : Int) ≤ (m : Int) := by omega
      have hm1 : (m : Int) < (l.length : Int) := by omega
      have HOW := Lib.hid hown
      have HB := Lib.hid hb
      generalize hq : l.length - (m + 1) = q at *
      have hq16 : q + 1 ≤ 16 := by omega
      have HQ := Lib.hid hq
      have hgal' : g < wr.heap.size := Nat.lt_of_lt_of_le hgal hbs
      clear hown hb c0 c1 hrt em hq
      go_wp2_with fail
      go_quiet (fail)
      have hb0 := below_drewN (Below.refl wr.heap.size wr) nq
      have y0 : (wr.drewN nq).cell? ⟨g, m * 2, none⟩ = some (.int .i64 (a : Int)) := x0
      have y1 : (wr.drewN nq).cell? ⟨g, m * 2 + 1, none⟩ = some (.int .i64 (b : Int)) := x1
      replace HOW := Lib.hid (own_below HOW.out hb0)
      replace HB := Lib.hid (bstep HB.out hb0)
      have hgz : g < (wr.drewN nq).heap.size := hgal'
      clear x0 x1 hb0
      generalize wr.drewN nq = wz at *
      go_wp2_with fail
      have hz7 := HB.out
      refine wp_region_ph [([0, 1, 2, 3, 4, 5, 6, 7, 8, 9, 10, 11, 12, 13, 14, 15, 16], [17, 18]), ([19], [])] (fun w' => Below w7.heap.size w7 w') (by kernel_rfl) (by kernel_rfl) (fun _ _ h1 h2 => bstep h1 h2) hz7 ?_
      intro ι F hne hF W0 hW0 hI0
      have p0 : ∀ i, (F i).cell? ⟨g, m * 2, none⟩ = some (.int .i64 (a : Int)) := fun i => ((hF i).cell (p := ⟨g, m * 2, none⟩) hgal).trans C0.out
      have p1 : ∀ i, (F i).cell? ⟨g, m * 2 + 1, none⟩ = some (.int .i64 (b : Int)) := fun i => ((hF i).cell (p := ⟨g, m * 2 + 1, none⟩) hgal).trans C1.out
      clear hz7 y0 y1
      (refine wpPh_cons ?_; simp only [pickOps, List.getElem?_cons_succ, List.getElem?_cons_zero])
      repeat (refine wpB_step (fun K hK => ?_); go_simp; first | (refine hK _ ?_; clear hK K) | (apply Exists.intro; refine ⟨fun _ => ?_, hK _ ?_⟩; (fail); clear hK K))
      rw [show IntKind.i64.wrap ((hi' - lo : Nat) : Int) = ((hi' - lo : Nat) : Int) from IntWalk.i64_in _ (by omega)]
      refine wpB_nil ?_
      intro w3 hw3 hI3
      have HO3 := Lib.hid (own_below (own_below HOW.out hW0) hw3)
      have HI3 := Lib.hid hI3
      clear p0 p1 hw3 hI3 hF
      refine wpRB_step (fun K hK => ?_)
      go_simp
      have hlit := EdRow.lit w3 29 [⟨lo, hi' - lo, p⟩] (show 1 ≤ maxLen by decide)
      have hl3 := (Below.refl w3.heap.size w3).alloc (Nat.le_refl _) (.cells #[.int .i64 (lo : Int), .int .i64 ((hi' - lo : Nat) : Int), .string p] 29)
      refine hK _ _ ⟨bstep HI3.out hl3, ?_⟩
      clear hK K
      intro w4 hw4 hI4
      have HO4 := Lib.hid (own_below (own_below HO3.out hl3) hw4)
      obtain ⟨Al, cl, hvl, _, _, hrl⟩ := hlit.later hw4
      injection hvl with el1 _ el3
      subst el1
      have HRL := Lib.hid hrl
      have HI4 := Lib.hid hI4
      clear hw4 hI4 hlit hrl hl3
      refine wpRB_append_any rfl (.tmp 65) (.tmp 82) _ rfl w7.heap.size 29 _ 3 32 Try.underlying34 edit_info rfl (by decide) (.slice Ao q co) q _ rfl HO4.out w4.heap.size _ 1 1 _ rfl HRL.out hone (by unfold maxLen; omega) (by omega) HI4.out.size ?_
      intro v8 w8 ho8 hg8 _
      have HO8 := Lib.hid ho8
      have HI8 := Lib.hid (HI4.out.grown hg8 HI4.out.size (fun k hk => (HO4.out.lt k hk).1))
      refine ⟨HI8.out, ?_⟩
      clear ho8 hg8
      intro w9 hw9 hI9
      have HO9 := Lib.hid (own_below HO8.out hw9)
      have HI9 := Lib.hid hI9
      clear hw9 hI9
      refine wpRB_nil ?_
      (refine wpPh_cons ?_; simp only [pickOps, List.getElem?_cons_succ, List.getElem?_cons_zero])
      repeat (refine wpB_step (fun K hK => ?_); go_simp; first | (refine hK _ ?_; clear hK K) | (apply Exists.intro; refine ⟨fun _ => ?_, hK _ ?_⟩; (fail); clear hK K))
      refine wpB_nil ?_
      intro w10 hw10 hI10
      have HO10 := Lib.hid (own_below HO9.out hw10)
      have HI10 := Lib.hid hI10
      clear hw10 hI10
      refine wpRB_nil ?_
      refine wpPh_nil ?_
      clear hne F hW0 hI0 W0
      go_wp2_with fail
      refine ⟨⟨m, by omega, rfl, ?_, HI10.out⟩, by simp [intOf]⟩
      have h9 := HO10.out
      rw [HRTM.out, edCells_snoc, HED.out, show l.length - m = q + 1 by have := HQ.out; omega]
      exact h9
end Go.Proofs.Ythemlhkdgaeogaa
