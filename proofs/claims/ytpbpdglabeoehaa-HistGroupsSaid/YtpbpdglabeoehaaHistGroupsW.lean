/-
  The walk of the law HistGroups: whatever its input, it returns true and changes nothing that was there.
-/
import Derived.Test.YtpbpdglabeoehaaGroupsP
namespace Go.Proofs.Ytpbpdglabeoehaa
open Go.RowKit
set_option linter.unusedVariables false

theorem own_drewN {w : World} {base : Nat} {e : TypeId} {size n : Nat} {v : Value} {xs : List Value} (h : w.ownsRow base e size v n xs) (k : Nat) : (w.drewN k).ownsRow base e size v n xs := h
theorem own_one (w : World) (base : Nat) (e : TypeId) (v : Value) (h : base ≤ w.heap.size) : (w.alloc (.cells #[v] e)).ownsRow base e 1 (.slice (some ⟨w.heap.size, 0, none⟩) 1 1) 1 [v] :=
  ⟨rfl, .inr ⟨w.heap.size, 1, #[v], rfl, h, heap_alloc_new w _, Nat.le_refl _, by decide, by simp, rfl⟩⟩
set_option maxRecDepth 100000 in
set_option maxHeartbeats 4000000 in
theorem histGroups_walk (w : World) (v0 : Value) (l : List Int) (h0 : Row .i64 w v0 l) (v1 : Value) (cs : List Chg) (h1 : Chgs w v1 cs) (n : Int) (hn : -9223372036854775808 ≤ n ∧ n ≤ 9223372036854775807) :
    Calls Try.prog 11 #[v0, v1, .int .i64 n] w fun e w' => e = .returned (.bool true) ∧ Below w.heap.size w w' := by
  obtain ⟨z, hze⟩ : ∃ z : Nat, n % 5 = (z : Int) := ⟨(n % 5).toNat, by omega⟩
  have hz5 : z < 5 := by omega
  go_enter Try.func11, Try.ntmps11
  go_wp2_with fail
  refine (textOf_any v0 l 40 _ h0 (by omega) (by omega)).mono ?_
  rintro e w1 ⟨s, rfl, es0, rfl⟩
  have ss := text_len _ _ _ es0; clear es0
  simp only [show Int.toNat 40 = 40 from rfl] at ss
  go_wp2_with fail
  refine (edits_any v1 cs 15 s.size _ h1 (by omega) (by omega)).mono ?_
  rintro e w1 ⟨vd, es, rfl, hed, hv, hdl, hb1⟩
  obtain ⟨Ad, cd, rfl, hcd1, hcd2, hrd⟩ := hed
  have HV := Lib.hid hv
  clear hv h0 h1
  have HPK := Lib.hid (picked_any n 5 w1 hn (by omega) (by omega))
  rw [hze] at HPK
  clear hze hn
  go_wp2_with fail
  refine HPK.out.mono ?_
  rintro e w' ⟨rfl, rfl⟩
  have hsum : (1 : Int) + (z : Int) = ((z + 1 : Nat) : Int) := by omega
  have how := own_one w1 w1.heap.size 9 (.string s) (Nat.le_refl _)
  have hbw : Below w1.heap.size w1 (w1.alloc (.cells #[.string s] 9)) := (Below.refl _ _).alloc (Nat.le_refl _) _
  go_wp2_with fail
  generalize w1.alloc (.cells #[.string s] 9) = W at *
  have HHOW := Lib.hid how
  have HBW := Lib.hid hbw
  have HB1 := Lib.hid hb1
  have HRD := Lib.hid hrd
  clear how hbw hb1 hrd hsum HPK
  go_loopw [10, 11, 12, 13] (fun d wt nw i wr => ∃ (k : Nat) (ds : List Dd) (want : List ByteArray), k ≤ es.length ∧ i = .int .i64 k ∧ nw = .string (rn s (es.take k)) ∧ GI s es k ds want ∧ wr.ownsRow w1.heap.size 41 4 d ds.length (cellsOf ddc ds) ∧
    wr.ownsRow w1.heap.size 9 1 wt want.length (want.map .string) ∧ Below w1.heap.size w1 wr) (fun _ _ _ i _ => es.length - (intOf i).toNat)
  case atStart => exact ⟨0, [], [s], Nat.zero_le _, rfl, rfl, gi_new s es, World.ownsRow_nil _ _ _ _, HHOW.out, HBW.out⟩
  case round =>
    clear HHOW HBW
    obtain ⟨k, ds, want, hk, rfl, rfl, hgi, hod, how, hb⟩ := hrel
    have hgl := hgi.len
    have hgw := hgi.wl
    by_cases hlt : k < es.length
    · obtain ⟨b1, o1, rfl, hb1, x0, x1, x2⟩ := EdRow.at_ (HRD.out.below hb) hlt
      have hbr := Nat.lt_of_lt_of_le hb1 hb.size
      obtain ⟨a1, a2, a3, a4⟩ := step_ok s es k hlt ss hdl HV.out
      have hp6 := okr_putH es s.size (by omega) (okr_of_vld es s.size HV.out (by omega)) es[k] (List.getElem_mem hlt)
      have HRT := Lib.hid (rn_takeH es s k hlt)
      have HGO := Lib.hid (fun hne => gi_open hgi hlt ss hdl HV.out hne)
      have HGC := Lib.hid (gi_close hgi hlt ss hdl HV.out)
      clear a3 a4 hgi
      generalize rn s (es.take k) = t at *
      have HMK := Lib.hid (show mk t es[k] = t.extract 0 es[k].p ++ es[k].put ++ t.extract (es[k].p + es[k].c) t.size from rfl)
      generalize es[k] = d at *
      obtain ⟨p, c, put⟩ := d
      simp only at x0 x1 x2 a1 hp6 HMK
      obtain ⟨A5, c5, rfl, hc5, hc6⟩ := own_slice hod
      obtain ⟨A6, c6, rfl, hc7, hc8⟩ := own_slice how
      go_wp2_with (at_builtin; refine wpList_appN rfl (.tmp 42) (.tmp 48) _ rfl w1.heap.size 41 _ 4 40 Try.underlying31 deed_info rfl (by decide) _ _ _ rfl hod (ddc (.do_ ⟨p, c, put⟩)) rfl _ rfl rfl rfl (ddc_one _) (by omega) (by omega) hb.size ?_)
      intro v4 w4 hod4 hB4 hg4
      have hb4 := hB4 _ (Nat.le_refl _) _ hb
      have how4 := how.kept hg4 (own_own_ne how hod (by decide))
      obtain ⟨A7, c7, rfl, hc9, hc10⟩ := own_slice hod4
      have y0 : w4.cell? ⟨b1, o1 + k * 3, none⟩ = some (.int .i64 (p : Int)) := (hb4.cell (p := ⟨b1, _, none⟩) hb1).trans ((hb.cell (p := ⟨b1, _, none⟩) hb1).symm.trans x0)
      have y1 : w4.cell? ⟨b1, o1 + k * 3 + 1, none⟩ = some (.int .i64 (c : Int)) := (hb4.cell (p := ⟨b1, _, none⟩) hb1).trans ((hb.cell (p := ⟨b1, _, none⟩) hb1).symm.trans x1)
      have y2 : w4.cell? ⟨b1, o1 + k * 3 + 2, none⟩ = some (.string put) := (hb4.cell (p := ⟨b1, _, none⟩) hb1).trans ((hb.cell (p := ⟨b1, _, none⟩) hb1).symm.trans x2)
      have l4 := Nat.lt_of_lt_of_le hb1 hb4.size
      clear hod how hb hB4 hg4 x0 x1 x2
      have HOD4 := Lib.hid hod4
      have HOW4 := Lib.hid how4
      have HB4 := Lib.hid hb4
      clear hod4 how4 hb4
      go_wp2_with fail
      go_quiet (fail)
      go_upto_if 89 with fail
      all_goals (have HOD5 := Lib.hid (own_drewN HOD4.out nq))
      all_goals (have HOW5 := Lib.hid (own_drewN HOW4.out nq))
      all_goals (have HB5 := Lib.hid (below_drewN HB4.out nq))
      all_goals (clear HOD4 HOW4 HB4)
      · generalize w4.drewN nq = W4 at *
        go_wp2_with (at_builtin; refine wpList_appN rfl (.tmp 90) (.tmp 92) _ rfl w1.heap.size 41 _ 4 40 Try.underlying31 deed_info rfl (by decide) _ _ _ rfl HOD5.out (ddc .close) rfl _ rfl rfl rfl (ddc_one _) (by omega) (by omega) HB5.out.size ?_)
        intro v6 w6 hod6 hB6 hg6
        have hb6 := hB6 _ (Nat.le_refl _) _ HB5.out
        have how6 := HOW5.out.kept hg6 (own_own_ne HOW5.out HOD5.out (by decide))
        obtain ⟨A8, c8, rfl, hc11, hc12⟩ := own_slice hod6
        clear hB6 hg6
        rw [← HMK.out]
        go_wp2_with (at_builtin; refine wpList_appN rfl (.tmp 94) (.tmp 96) _ rfl w1.heap.size 9 _ 1 16 Try.underlying44 str_info rfl (by decide) _ _ _ rfl how6 [.string (mk t ⟨p, c, put⟩)] rfl _ rfl rfl rfl (by simp [Value.oneCell']) (by omega) (by omega) hb6.size ?_)
        intro v7 w7 how7 hB7 hg7
        have hb7 := hB7 _ (Nat.le_refl _) _ hb6
        have hod7 := hod6.kept hg7 (own_own_ne hod6 how6 (by decide))
        obtain ⟨A9, c9, rfl, hc13, hc14⟩ := own_slice how7
        have HOD7 := Lib.hid hod7
        have HOW7 := Lib.hid how7
        have HB7 := Lib.hid hb7
        clear hB7 hg7 hod6 how6 hb6 hod7 how7 hb7
        go_wp2_with fail
        go_roundw
        case rel =>
          refine ⟨k + 1, _, _, by omega, by go_num, by rw [HRT.out], HGC.out, ?_, ?_, HB7.out⟩
          · rw [cellsOf_snoc, cellsOf_snoc, List.append_assoc (cellsOf ddc ds), List.length_append, List.length_append]; exact HOD7.out
          · rw [HRT.out, List.map_append, List.length_append]; exact HOW7.out
        case measure => simp [intOf]; omega
      · generalize w4.drewN nq = W4 at *
        go_wp2_with (at_builtin; refine wpList_appN rfl (.tmp 90) (.tmp 92) _ rfl w1.heap.size 41 _ 4 40 Try.underlying31 deed_info rfl (by decide) _ _ _ rfl HOD5.out (ddc .close) rfl _ rfl rfl rfl (ddc_one _) (by omega) (by omega) HB5.out.size ?_)
        · intro v6 w6 hod6 hB6 hg6
          have hb6 := hB6 _ (Nat.le_refl _) _ HB5.out
          have how6 := HOW5.out.kept hg6 (own_own_ne HOW5.out HOD5.out (by decide))
          obtain ⟨A8, c8, rfl, hc11, hc12⟩ := own_slice hod6
          clear hB6 hg6
          rw [← HMK.out]
          go_wp2_with (at_builtin; refine wpList_appN rfl (.tmp 94) (.tmp 96) _ rfl w1.heap.size 9 _ 1 16 Try.underlying44 str_info rfl (by decide) _ _ _ rfl how6 [.string (mk t ⟨p, c, put⟩)] rfl _ rfl rfl rfl (by simp [Value.oneCell']) (by omega) (by omega) hb6.size ?_)
          intro v7 w7 how7 hB7 hg7
          have hb7 := hB7 _ (Nat.le_refl _) _ hb6
          have hod7 := hod6.kept hg7 (own_own_ne hod6 how6 (by decide))
          obtain ⟨A9, c9, rfl, hc13, hc14⟩ := own_slice how7
          have HOD7 := Lib.hid hod7
          have HOW7 := Lib.hid how7
          have HB7 := Lib.hid hb7
          clear hB7 hg7 hod6 how6 hb6 hod7 how7 hb7
          go_wp2_with fail
          go_roundw
          case rel =>
            refine ⟨k + 1, _, _, by omega, by go_num, by rw [HRT.out], HGC.out, ?_, ?_, HB7.out⟩
            · rw [cellsOf_snoc, cellsOf_snoc, List.append_assoc (cellsOf ddc ds), List.length_append, List.length_append]; exact HOD7.out
            · rw [HRT.out, List.map_append, List.length_append]; exact HOW7.out
          case measure => simp [intOf]; omega
        · rename_i hcc
          have hke : k + 1 ≠ es.length := by
            have := hcc.2
            rw [beq_eq_false_iff_ne] at this
            intro e; apply this; omega
          have HGO2 := Lib.hid (HGO.out hke)
          clear hke hcc
          go_roundw
          case rel =>
            refine ⟨k + 1, _, want, by omega, by go_num, by rw [HRT.out, HMK.out], HGO2.out, ?_, HOW5.out, HB5.out⟩
            rw [cellsOf_snoc, List.length_append]; exact HOD5.out
          case measure => simp [intOf]; omega
    · obtain rfl : k = es.length := by omega
      have hfin := fun m hm => gi_fin hgi m hm
      have hdok := hgi.ok
      have HFIN := Lib.hid hfin
      have HDOK := Lib.hid hdok
      obtain ⟨m, hm⟩ : ∃ m, want.length = m + 1 := ⟨want.length - 1, by have := (hgi.shut (hgi.done rfl)).1; omega⟩
      have hmi : (want.length : Int) - 1 = (m : Int) := by omega
      have hm15 : m ≤ 15 := by omega
      have hfm := hfin m hm
      have HFM := Lib.hid hfm
      have HM := Lib.hid hm
      have HCO := Lib.hid (fun W (v : Value) (hW : DRow W v ds) => counts_any s v ds W (by omega) (by omega) hdok hW)
      rw [hfm.1, hfm.2.1] at HCO
      clear hfin hdok hgi HFIN hfm hm
      have hdr := DRow.of_own hod
      obtain ⟨A5, c5, rfl, hc5, hc6⟩ := own_slice hod
      obtain ⟨A6, c6, rfl, hc7, hc8⟩ := own_slice how
      have hrr := Reads.of_own hod
      go_wp2_with (at_builtin; refine wpList_copy rfl (.tmp 100) _ rfl 41 _ 4 40 Try.underlying31 deed_info rfl (by decide) _ ds.length _ (cellsOf ddc ds) rfl hrr (cellsOf_oneCell ddc_one _) (by omega) (by omega) ?_)
      intro v3 w3 ho3 hb3
      have HC3 := Lib.hid (HCO.out w3 v3 (DRow.of_own ho3))
      obtain ⟨A3, c3, rfl, hc3, hc4⟩ := own_slice ho3
      have hod3 := own_below hod hb3
      have how3 := own_below how hb3
      have hbb3 := bstep hb hb3
      clear ho3 hb3 hod how hb hrr hdr HCO
      go_wp2_with fail
      refine HC3.out.mono ?_
      rintro e w4 ⟨rfl, hb4⟩
      have hod4 := own_below hod3 hb4
      have how4 := own_below how3 hb4
      have hbb4 := bstep hbb3 hb4
      clear hod3 how3 hbb3 hb4
      go_wp2_with fail
      go_loopw [10, 18] (fun f i wr => ∃ j : Nat, j ≤ m ∧ i = .int .i64 j ∧ wr.ownsRow w1.heap.size 41 4 f (ds.length + j) (cellsOf ddc (ds ++ List.replicate j .undo)) ∧ wr.ownsRow w1.heap.size 9 1 (.slice A6 want.length c6) want.length (want.map .string) ∧ Below w1.heap.size w1 wr) (fun _ i _ => m - (intOf i).toNat)
      case atStart => exact ⟨0, Nat.zero_le _, rfl, by simpa using hod4, how4, hbb4⟩
      case round =>
        clear hod4 how4 hbb4
        obtain ⟨j, hj, rfl, hof, how, hb⟩ := hrel
        obtain ⟨A7, c7, rfl, hc7', hc8'⟩ := own_slice hof
        by_cases hlt2 : j < m
        · go_wp2_with (at_builtin; refine wpList_appN rfl (.tmp 114) (.tmp 116) _ rfl w1.heap.size 41 _ 4 40 Try.underlying31 deed_info rfl (by decide) _ _ _ rfl hof (ddc .undo) rfl _ rfl rfl rfl (ddc_one _) (by omega) (by omega) hb.size ?_)
          intro v8 w8 hof8 hB8 hg8
          have hb8 := hB8 _ (Nat.le_refl _) _ hb
          have how8 := how.kept hg8 (own_own_ne how hof (by decide))
          obtain ⟨A9, c9, rfl, hc9, hc10⟩ := own_slice hof8
          have HOF := Lib.hid hof8
          have HOW := Lib.hid how8
          have HB8 := Lib.hid hb8
          clear hof8 hB8 hg8 hb8 hof hb how how8
          go_wp2_with fail
          go_roundw
          case rel =>
            refine ⟨j + 1, by omega, by go_num, ?_, HOW.out, HB8.out⟩
            rw [List.replicate_succ', ← List.append_assoc, cellsOf_snoc]; exact HOF.out
          case measure => simp [intOf]; omega
        · obtain rfl : j = m := by omega
          have hdo2 : ∀ d ∈ ds ++ List.replicate j Dd.undo, dOk d := by
            intro d hd
            rcases List.mem_append.1 hd with hd | hd
            · exact HDOK.out d hd
            · rw [List.mem_replicate] at hd; rw [hd.2]; trivial
          have hdl2 : (ds ++ List.replicate j Dd.undo).length = ds.length + j := by simp
          generalize ds ++ List.replicate j Dd.undo = dd at *
          rw [← hdl2] at hof
          have hdr := DRow.of_own hof
          rw [hdl2] at hof
          have HH := Lib.hid (histed_any s _ dd wr (by omega) (by omega) hdo2 hdr)
          have HLN := Lib.hid hdl2
          have HOW := Lib.hid how
          have HB := Lib.hid hb
          rw [HLN.out] at HH
          clear hdr hb hdo2 hof hdl2 how
          go_wp2_with fail
          refine HH.out.mono ?_
          rintro e w6 ⟨vt6, vc6, rfl, hot, hoc, hb6⟩
          have HPL := Lib.hid (play_len dd (h0s s))
          rw [HLN.out] at hot hoc
          obtain ⟨At6, ct6, rfl, hct6, hct7⟩ := own_slice hot
          obtain ⟨Ac6, cc6, rfl, hcc6, hcc7⟩ := own_slice hoc
          have HRT := Lib.hid (Reads.of_own hot)
          have HRC := Lib.hid (Reads.of_own hoc)
          have HRW := Lib.hid (Reads.of_own (own_below HOW.out hb6))
          have HB6 := Lib.hid (bstep HB1.out (bstep HB.out hb6))
          clear hot hoc hb6 HB HH HOW
          go_wp2_with fail
          go_loopw [22] (fun i wr2 => ∃ q : Nat, q ≤ j ∧ i = .int .i64 q ∧ Below w6.heap.size w6 wr2) (fun i _ => j - (intOf i).toNat)
          case atStart => exact ⟨0, Nat.zero_le _, rfl, Below.refl _ _⟩
          case round =>
            obtain ⟨q, hq, rfl, hb⟩ := hrel
            by_cases hlt3 : q < j
            · have hpl := HPL.out
              rw [HLN.out] at hpl
              have h9 := HFM.out.2.2 q hlt3
              have hct : ds.length + q < (play (h0s s) dd).2.1.length := by omega
              have hcc : ds.length + q < (play (h0s s) dd).2.2.length := by omega
              obtain ⟨r, hr⟩ : ∃ r, j - 1 - q = r := ⟨_, rfl⟩
              have hrw : r < want.length := by have := HM.out; omega
              rw [hr, List.getElem?_eq_getElem hct, List.getElem?_eq_getElem hcc, List.getElem?_eq_getElem hrw] at h9
              have e1 := Option.some.inj h9.1
              have e2 := Option.some.inj h9.2
              obtain ⟨b2, o2, rfl, hb2, y0⟩ := codes_at (i := ds.length + q) (by rw [hpl.2]; exact HRC.out.below hb) hcc
              obtain ⟨b3, o3, rfl, hb3, z0⟩ := SRow.at_ (i := ds.length + q) (by rw [hpl.1]; exact HRT.out.below hb) hct
              obtain ⟨b4, o4, rfl, hb4, x0⟩ := SRow.at_ (i := r) (HRW.out.below hb) hrw
              rw [e1] at z0
              rw [e2] at y0
              have hix : (ds.length : Int) + j - j + q = ((ds.length + q : Nat) : Int) := by omega
              have hiy : (j : Int) - 1 - q = (r : Int) := by omega
              have hlq : ds.length + q < ds.length + j := by omega
              have l2 := Nat.lt_of_lt_of_le hb2 hb.size
              have l3 := Nat.lt_of_lt_of_le hb3 hb.size
              have l4 := Nat.lt_of_lt_of_le hb4 hb.size
              have hb9 := Lib.hid hb
              have hlq2 : ((ds.length + q : Nat) : Int) < (ds.length : Int) + j := by omega
              have hrw2 : (r : Int) < (want.length : Int) := by omega
              clear hpl h9 hct hcc hr e1 e2 hmi hb
              go_wp2_with fail
              go_quiet (fail)
              go_wp2_with fail
              go_roundw
              case rel => exact ⟨q + 1, by omega, by go_num, below_drewN hb9.out _⟩
              case measure => simp [intOf]; omega
            · have HB9 := Lib.hid (bstep HB6.out hb)
              clear hb
              go_wp2_with fail
              go_ret
              exact ⟨rfl, HB9.out⟩
end Go.Proofs.Ytpbpdglabeoehaa
