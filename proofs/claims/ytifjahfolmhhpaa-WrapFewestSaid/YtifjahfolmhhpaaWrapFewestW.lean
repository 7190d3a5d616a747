/-
  The walk of WrapFewest: at every input it returns true, and nothing that was there is changed.
-/
import Derived.Test.YtifjahfolmhhpaaWrapC
namespace Go.Proofs.Ytifjahfolmhhpaa
open Go.RowKit
set_option linter.unusedVariables false

/-- Lines as they have been begun so far. -/
def LL (wd : Int) (ws : List Int) (k : Nat) (L : List (List Int)) : Prop := L.flatten = ws.take k ∧ Fit wd L
def frL (wd : Int) (L : List (List Int)) : Int := match L.getLast? with | none => -1 | some l => lf wd l
theorem frL_bd (wd : Int) (L : List (List Int)) (hw : 1 ≤ wd) (hf : Fit wd L) (hp : ∀ n ∈ L.flatten, 1 ≤ n) : -1 ≤ frL wd L ∧ frL wd L ≤ wd := by
  unfold frL
  cases h : L.getLast? with
  | none => simp; omega
  | some l =>
    have hm := List.mem_of_getLast? h
    have h2 := hf l hm
    have := lf_le wd l (fun n hn => hp n (List.mem_flatten.2 ⟨l, hm, hn⟩))
    have h3 := lf_le2 wd l (fun n hn => hp n (List.mem_flatten.2 ⟨l, hm, hn⟩)) h2.1
    exact ⟨by have := h2.2; show -1 ≤ lf wd l; omega, by show lf wd l ≤ wd; omega⟩
theorem nl_new (wd : Int) (ws : List Int) (k : Nat) (L : List (List Int)) (hk : k < ws.length) (hx : ws[k] ≤ wd) (h : LL wd ws k L) :
    LL wd ws (k + 1) (L ++ [[ws[k]]]) ∧ sts 0 (L ++ [[ws[k]]]) = sts 0 L ++ [k] ∧ frL wd (L ++ [[ws[k]]]) = wd - ws[k] := by
  obtain ⟨h1, h2⟩ := h
  refine ⟨⟨by rw [List.flatten_append, h1, List.take_succ_eq_append_getElem hk]; simp, ?_⟩, ?_, ?_⟩
  · intro l hl
    rcases List.mem_append.1 hl with h | h
    · exact h2 l h
    · simp at h; subst h; exact ⟨by simp, by simp [lf]; omega⟩
  · rw [sts_append, h1]; simp [sts]; omega
  · simp [frL, lf]; omega
theorem nl_add (wd : Int) (ws : List Int) (k : Nat) (L : List (List Int)) (hk : k < ws.length) (h0 : 0 < k) (h : LL wd ws k L) (hx : ¬ ws[k] > frL wd L - 1) :
    ∃ L', LL wd ws (k + 1) L' ∧ sts 0 L' = sts 0 L ∧ L'.length = L.length ∧ frL wd L' = frL wd L - (ws[k] + 1) := by
  obtain ⟨h1, h2⟩ := h
  rcases List.eq_nil_or_concat L with rfl | ⟨D, l, rfl⟩
  · have := congrArg List.length h1; simp at this; omega
  · simp only [List.concat_eq_append] at *
    have hfr : frL wd (D ++ [l]) = lf wd l := by simp [frL]
    rw [hfr] at hx
    refine ⟨D ++ [l ++ [ws[k]]], ⟨?_, ?_⟩, ?_, by simp, ?_⟩
    · rw [List.take_succ_eq_append_getElem hk, ← h1]; simp
    · intro m hm
      rcases List.mem_append.1 hm with h | h
      · exact h2 m (by simp [h])
      · simp at h; subst h
        exact ⟨by simp, by rw [lf_snoc]; omega⟩
    · rw [sts_append, sts_append]; rfl
    · rw [hfr]; simp [frL, lf_snoc]
set_option maxRecDepth 100000 in
set_option maxHeartbeats 4000000 in
theorem wrapFewest_walk (w : World) (v0 : Value) (l : List Int) (h0 : Row .i64 w v0 l) (wide : Int) (hwide : -9223372036854775808 ≤ wide ∧ wide ≤ 9223372036854775807) (v1 : Value) (bs : List Int) (h1 : Row .i64 w v1 bs) :
    Calls Try.prog 13 #[v0, .int .i64 wide, v1] w fun e w' => e = .returned (.bool true) ∧ Below w.heap.size w w' := by
  have hp := fun W => picked_any wide 40 W hwide (by omega) (by omega)
  have hm := Int.emod_nonneg wide (show (40 : Int) ≠ 0 by omega)
  have hm2 := Int.emod_lt_of_pos wide (show (0 : Int) < 40 by omega)
  generalize wide % 40 = y at *
  have HP := Lib.hid hp
  clear hp
  go_enter Try.func13, Try.ntmps13
  go_wp2_with fail
  refine (HP.out _).mono ?_
  rintro e w' ⟨rfl, rfl⟩
  clear HP
  go_wp2_with fail
  obtain ⟨wd, hwd⟩ : ∃ wd : Int, 4 + y = wd := ⟨_, rfl⟩
  have hw4 : 4 ≤ wd ∧ wd ≤ 43 := by omega
  have HW := Lib.hid (fun W h => widths_any v0 l 60 wd W h (by omega) (by omega) (by omega))
  rw [← hwd] at HW
  refine (HW.out _ h0).mono ?_
  rw [hwd]
  rintro e w1 ⟨v, ws, rfl, hown, hws, hwl, k1⟩
  replace h1 := h1.later k1
  clear HW hwd hm hm2 h0
  have hrow : Row .i64 w1 v ws := row_of_own hown (fun x hx => wfi x (by have := hws x hx; omega))
  clear hown
  obtain ⟨A, c, rfl, hl1, hl2, _, _⟩ := id hrow
  unfold maxLen at hl2
  go_wp2_with (at_builtin; refine wpList_copyInts rfl (.tmp 32) _ rfl 3 .i64 _ 8 Try.underlying22 int_info rfl _ ws rfl hrow (by omega) (by omega) ?_)
  intro v2 w2 _ hrow2 hb2
  have k2 := bstep k1 hb2
  replace hrow := hrow.later hb2
  replace h1 := h1.later hb2
  clear k1 hb2
  go_wp2_with fail
  refine (greedy_any v2 ws wd _ hrow2 hws (by omega) (by omega) (by omega)).mono ?_
  rintro e w3 ⟨v3, rfl, hown3, hb3⟩
  have k3 := bstep k2 hb3
  replace hrow := hrow.later hb3
  replace h1 := h1.later hb3
  have hgrow := gr_row (wd := wd) (ws := ws) (by omega) hown3
  clear k2 hb3 hrow2 hown3
  go_wp2_with (at_builtin; refine wpList_copyInts rfl (.tmp 39) _ rfl 3 .i64 _ 8 Try.underlying22 int_info rfl _ ws rfl hrow (by omega) (by omega) ?_)
  intro v4 w4 _ hrow4 hb4
  have k4 := bstep k3 hb4
  replace hrow := hrow.later hb4
  replace h1 := h1.later hb4
  replace hgrow := hgrow.later hb4
  clear k3 hb4
  go_wp2_with fail
  refine (best_any v4 ws wd _ hrow4 hws (by omega) (by omega) (by omega)).mono ?_
  rintro e w5 ⟨v5, ls, rfl, hbrow, hfl, hfit, hopt, hb5⟩
  have k5 := bstep k4 hb5
  replace hrow := hrow.later hb5
  replace h1 := h1.later hb5
  replace hgrow := hgrow.later hb5
  have HFL := Lib.hid hfl
  clear k4 hb5 hrow4 hfl
  have HG1 := Lib.hid greedy_one
  go_wp2_with fail
  refine (HG1.out _ w5 rfl).mono ?_
  rintro e w6 ⟨v6, rfl, hown6, hb6⟩
  have hb56 := bstep_alloc hb6
  have k6 := bstep k5 hb56
  replace hrow := hrow.later hb56
  replace h1 := h1.later hb56
  replace hgrow := hgrow.later hb56
  replace hbrow := hbrow.later hb56
  rw [show gr 1 (-1) 0 [1] = [0] by decide] at hown6
  obtain ⟨g6, c6, hv6, _⟩ := hown6.form (by decide)
  have hv6' : v6 = .slice (some ⟨g6, 0, none⟩) 1 c6 := hv6
  subst hv6'
  clear hown6 hv6 hb6 hb56 k5 HG1
  obtain ⟨A1, c1, rfl, hbl1, hbl2, hbw, hbr⟩ := id h1
  have hbd := h1.bd
  unfold maxLen at hbl2
  go_wp2_with fail
  clear hbw
  obtain ⟨wo, rfl⟩ : ∃ wo : World, wo = w6 := ⟨_, rfl⟩
  go_loopw [15, 16, 17, 18] (fun o f i _ wr => ∃ (k : Nat) (L : List (List Int)), k ≤ ws.length ∧ i = .int .i64 k ∧ Aside (LL wd ws k L) ∧ wr.ownsRow wo.heap.size 3 1 o L.length ((sts 0 L).map fun (x : Nat) => .int .i64 (x : Int)) ∧ f = .int .i64 (frL wd L) ∧ Below wo.heap.size wo wr) (fun _ _ i _ _ => ws.length - (intOf i).toNat)
  case atStart => exact ⟨0, [], Nat.zero_le _, rfl, (⟨rfl, fun l h => by simp at h⟩ : LL wd ws 0 []), World.ownsRow_nil _ _ _ _, rfl, Below.refl _ _⟩
  case round =>
    obtain ⟨k, L, hk, rfl, HL, hown, rfl, hbel⟩ := hrel
    have hLl : L.length ≤ k := by
      have := fit_len wd L HL.out.2
      rw [HL.out.1] at this; simp at this; omega
    by_cases hlt : k < ws.length
    · obtain ⟨b0, o0, hA, hb0, hcell0⟩ := Row.at_ (show Reads wo wo.heap.size 1 A ws.length (ws.map (.int .i64)) by obtain ⟨A', c', hv, _, _, _, hh⟩ := id hrow; cases hv; exact hh) hlt
      subst hA
      have eg : ws.getD k 0 = ws[k] := by simp [List.getD, hlt]
      rw [eg] at hcell0
      have hcell := (hbel.cell (p := ⟨b0, o0 + k, none⟩) hb0).trans hcell0
      have hx := hws ws[k] (List.getElem_mem hlt)
      have hfb := frL_bd wd L (by omega) HL.out.2 (by rw [HL.out.1]; exact fun n hn => (hws n (List.mem_of_mem_take hn)).1)
      clear eg
      by_cases hkb : k < bs.length
      · obtain ⟨b1, o1, rfl, hb1, hcb⟩ := Row.at_ hbr hkb
        have hcb' := (hbel.cell (p := ⟨b1, o1 + k, none⟩) hb1).trans hcb
        have hxb := hbd k
        generalize bs.getD k 0 = z at *
        have PK := Lib.hid (fun W => picked_any z 5 W hxb (by omega) (by omega))
        generalize z % 5 = q at *
        have hkd : (k : Int) < (bs.length : Int) := by omega
        by_cases hq : q = 0
        · have hqb : (q == 0) = true := by rw [beq_iff_eq]; exact hq
          clear hq hcb
          go_wp2_with fail
          refine (PK.out _).mono ?_
          rintro e w' ⟨rfl, rfl⟩
          clear PK
          by_cases hk0 : k = 0
          · have hkz : ((k : Int) == 0) = true := by rw [beq_iff_eq]; omega
            clear hk0
            have N1 := Lib.hid (nl_new wd ws k L hlt (by omega) HL.out)
            clear HL
            generalize ws[k] = x at *
            generalize frL wd L = f at *
            go_wp2_with (at_builtin; refine wpList_app1 rfl (.tmp 97) (.tmp 99) _ rfl wo.heap.size 3 _ 8 Try.underlying22 int_info rfl _ _ _ rfl hown (.int .i64 (k : Int)) rfl rfl rfl (by omega) (by omega) hbel.size ?_)
            intro v' w' hown' hbel' _
            replace hbel' := hbel' _ (Nat.le_refl _) _ hbel
            have hcell' : w'.cell? ⟨b0, o0 + k, none⟩ = some (.int .i64 x) := (hbel'.cell (p := ⟨b0, o0 + k, none⟩) hb0).trans hcell0
            clear hown hbel hcell hcell0
            go_wp2_with fail
            go_roundw
            case rel => first | exact ⟨k + 1, L ++ [[x]], by omega, by go_num, N1.out.1, by rw [N1.out.2.1]; simpa using hown', by rw [N1.out.2.2], hbel'⟩ | ((repeat apply Exists.intro); exact ⟨⟨k + 1, L ++ [[x]], by omega, by go_num, N1.out.1, by rw [N1.out.2.1]; simpa using hown', by rw [N1.out.2.2], hbel'⟩, rfl⟩)
            case measure => simp [intOf]; omega
          · have hkz : ((k : Int) == 0) = false := by rw [beq_eq_false_iff_ne]; omega
            by_cases hgt : ws[k] > frL wd L - 1
            · have N1 := Lib.hid (nl_new wd ws k L hlt (by omega) HL.out)
              clear HL
              generalize ws[k] = x at *
              generalize frL wd L = f at *
              go_wp2_with (at_builtin; refine wpList_app1 rfl (.tmp 97) (.tmp 99) _ rfl wo.heap.size 3 _ 8 Try.underlying22 int_info rfl _ _ _ rfl hown (.int .i64 (k : Int)) rfl rfl rfl (by omega) (by omega) hbel.size ?_)
              intro v' w' hown' hbel' _
              replace hbel' := hbel' _ (Nat.le_refl _) _ hbel
              have hcell' : w'.cell? ⟨b0, o0 + k, none⟩ = some (.int .i64 x) := (hbel'.cell (p := ⟨b0, o0 + k, none⟩) hb0).trans hcell0
              clear hown hbel hcell hcell0
              go_wp2_with fail
              go_roundw
              case rel => first | exact ⟨k + 1, L ++ [[x]], by omega, by go_num, N1.out.1, by rw [N1.out.2.1]; simpa using hown', by rw [N1.out.2.2], hbel'⟩ | ((repeat apply Exists.intro); exact ⟨⟨k + 1, L ++ [[x]], by omega, by go_num, N1.out.1, by rw [N1.out.2.1]; simpa using hown', by rw [N1.out.2.2], hbel'⟩, rfl⟩)
              case measure => simp [intOf]; omega
            · have N1 := Lib.hid (nl_new wd ws k L hlt (by omega) HL.out)
              clear HL
              generalize ws[k] = x at *
              generalize frL wd L = f at *
              go_wp2_with (at_builtin; refine wpList_app1 rfl (.tmp 97) (.tmp 99) _ rfl wo.heap.size 3 _ 8 Try.underlying22 int_info rfl _ _ _ rfl hown (.int .i64 (k : Int)) rfl rfl rfl (by omega) (by omega) hbel.size ?_)
              intro v' w' hown' hbel' _
              replace hbel' := hbel' _ (Nat.le_refl _) _ hbel
              have hcell' : w'.cell? ⟨b0, o0 + k, none⟩ = some (.int .i64 x) := (hbel'.cell (p := ⟨b0, o0 + k, none⟩) hb0).trans hcell0
              clear hown hbel hcell hcell0
              go_wp2_with fail
              go_roundw
              case rel => first | exact ⟨k + 1, L ++ [[x]], by omega, by go_num, N1.out.1, by rw [N1.out.2.1]; simpa using hown', by rw [N1.out.2.2], hbel'⟩ | ((repeat apply Exists.intro); exact ⟨⟨k + 1, L ++ [[x]], by omega, by go_num, N1.out.1, by rw [N1.out.2.1]; simpa using hown', by rw [N1.out.2.2], hbel'⟩, rfl⟩)
              case measure => simp [intOf]; omega
        · have hqb : (q == 0) = false := by rw [beq_eq_false_iff_ne]; exact hq
          clear hq hcb
          go_wp2_with fail
          refine (PK.out _).mono ?_
          rintro e w' ⟨rfl, rfl⟩
          clear PK
          by_cases hk0 : k = 0
          · have hkz : ((k : Int) == 0) = true := by rw [beq_iff_eq]; omega
            clear hk0
            have N1 := Lib.hid (nl_new wd ws k L hlt (by omega) HL.out)
            clear HL
            generalize ws[k] = x at *
            generalize frL wd L = f at *
            go_wp2_with (at_builtin; refine wpList_app1 rfl (.tmp 97) (.tmp 99) _ rfl wo.heap.size 3 _ 8 Try.underlying22 int_info rfl _ _ _ rfl hown (.int .i64 (k : Int)) rfl rfl rfl (by omega) (by omega) hbel.size ?_)
            intro v' w' hown' hbel' _
            replace hbel' := hbel' _ (Nat.le_refl _) _ hbel
            have hcell' : w'.cell? ⟨b0, o0 + k, none⟩ = some (.int .i64 x) := (hbel'.cell (p := ⟨b0, o0 + k, none⟩) hb0).trans hcell0
            clear hown hbel hcell hcell0
            go_wp2_with fail
            go_roundw
            case rel => first | exact ⟨k + 1, L ++ [[x]], by omega, by go_num, N1.out.1, by rw [N1.out.2.1]; simpa using hown', by rw [N1.out.2.2], hbel'⟩ | ((repeat apply Exists.intro); exact ⟨⟨k + 1, L ++ [[x]], by omega, by go_num, N1.out.1, by rw [N1.out.2.1]; simpa using hown', by rw [N1.out.2.2], hbel'⟩, rfl⟩)
            case measure => simp [intOf]; omega
          · have hkz : ((k : Int) == 0) = false := by rw [beq_eq_false_iff_ne]; omega
            by_cases hgt : ws[k] > frL wd L - 1
            · have N1 := Lib.hid (nl_new wd ws k L hlt (by omega) HL.out)
              clear HL
              generalize ws[k] = x at *
              generalize frL wd L = f at *
              go_wp2_with (at_builtin; refine wpList_app1 rfl (.tmp 97) (.tmp 99) _ rfl wo.heap.size 3 _ 8 Try.underlying22 int_info rfl _ _ _ rfl hown (.int .i64 (k : Int)) rfl rfl rfl (by omega) (by omega) hbel.size ?_)
              intro v' w' hown' hbel' _
              replace hbel' := hbel' _ (Nat.le_refl _) _ hbel
              have hcell' : w'.cell? ⟨b0, o0 + k, none⟩ = some (.int .i64 x) := (hbel'.cell (p := ⟨b0, o0 + k, none⟩) hb0).trans hcell0
              clear hown hbel hcell hcell0
              go_wp2_with fail
              go_roundw
              case rel => first | exact ⟨k + 1, L ++ [[x]], by omega, by go_num, N1.out.1, by rw [N1.out.2.1]; simpa using hown', by rw [N1.out.2.2], hbel'⟩ | ((repeat apply Exists.intro); exact ⟨⟨k + 1, L ++ [[x]], by omega, by go_num, N1.out.1, by rw [N1.out.2.1]; simpa using hown', by rw [N1.out.2.2], hbel'⟩, rfl⟩)
              case measure => simp [intOf]; omega
            · obtain ⟨L', N1, N2, N3, N4⟩ := nl_add wd ws k L hlt (by omega) HL.out hgt
              have M1 := Lib.hid N1
              have M2 := Lib.hid N2
              have M4 := Lib.hid N4
              rw [← N3] at hown hLl
              clear N1 N2 N4 N3 HL
              generalize ws[k] = x at *
              generalize frL wd L = f at *
              go_wp2_with fail
              go_roundw
              case rel => first | exact ⟨k + 1, L', by omega, by go_num, M1.out, by rw [M2.out]; exact hown, by rw [M4.out], hbel⟩ | ((repeat apply Exists.intro); exact ⟨⟨k + 1, L', by omega, by go_num, M1.out, by rw [M2.out]; exact hown, by rw [M4.out], hbel⟩, rfl⟩)
              case measure => simp [intOf]; omega
      · have hkd : ¬ ((k : Int) < (bs.length : Int)) := by omega
        have hkd2 : decide (k < bs.length) = false := by simp; omega
        by_cases hk0 : k = 0
        · have hkz : ((k : Int) == 0) = true := by rw [beq_iff_eq]; omega
          clear hk0
          have N1 := Lib.hid (nl_new wd ws k L hlt (by omega) HL.out)
          clear HL
          generalize ws[k] = x at *
          generalize frL wd L = f at *
          go_wp2_with (at_builtin; refine wpList_app1 rfl (.tmp 97) (.tmp 99) _ rfl wo.heap.size 3 _ 8 Try.underlying22 int_info rfl _ _ _ rfl hown (.int .i64 (k : Int)) rfl rfl rfl (by omega) (by omega) hbel.size ?_)
          intro v' w' hown' hbel' _
          replace hbel' := hbel' _ (Nat.le_refl _) _ hbel
          have hcell' : w'.cell? ⟨b0, o0 + k, none⟩ = some (.int .i64 x) := (hbel'.cell (p := ⟨b0, o0 + k, none⟩) hb0).trans hcell0
          clear hown hbel hcell hcell0
          go_wp2_with fail
          go_roundw
          case rel => first | exact ⟨k + 1, L ++ [[x]], by omega, by go_num, N1.out.1, by rw [N1.out.2.1]; simpa using hown', by rw [N1.out.2.2], hbel'⟩ | ((repeat apply Exists.intro); exact ⟨⟨k + 1, L ++ [[x]], by omega, by go_num, N1.out.1, by rw [N1.out.2.1]; simpa using hown', by rw [N1.out.2.2], hbel'⟩, rfl⟩)
          case measure => simp [intOf]; omega
        · have hkz : ((k : Int) == 0) = false := by rw [beq_eq_false_iff_ne]; omega
          by_cases hgt : ws[k] > frL wd L - 1
          · have N1 := Lib.hid (nl_new wd ws k L hlt (by omega) HL.out)
            clear HL
            generalize ws[k] = x at *
            generalize frL wd L = f at *
            go_wp2_with (at_builtin; refine wpList_app1 rfl (.tmp 97) (.tmp 99) _ rfl wo.heap.size 3 _ 8 Try.underlying22 int_info rfl _ _ _ rfl hown (.int .i64 (k : Int)) rfl rfl rfl (by omega) (by omega) hbel.size ?_)
            intro v' w' hown' hbel' _
            replace hbel' := hbel' _ (Nat.le_refl _) _ hbel
            have hcell' : w'.cell? ⟨b0, o0 + k, none⟩ = some (.int .i64 x) := (hbel'.cell (p := ⟨b0, o0 + k, none⟩) hb0).trans hcell0
            clear hown hbel hcell hcell0
            go_wp2_with fail
            go_roundw
            case rel => first | exact ⟨k + 1, L ++ [[x]], by omega, by go_num, N1.out.1, by rw [N1.out.2.1]; simpa using hown', by rw [N1.out.2.2], hbel'⟩ | ((repeat apply Exists.intro); exact ⟨⟨k + 1, L ++ [[x]], by omega, by go_num, N1.out.1, by rw [N1.out.2.1]; simpa using hown', by rw [N1.out.2.2], hbel'⟩, rfl⟩)
            case measure => simp [intOf]; omega
          · obtain ⟨L', N1, N2, N3, N4⟩ := nl_add wd ws k L hlt (by omega) HL.out hgt
            have M1 := Lib.hid N1
            have M2 := Lib.hid N2
            have M4 := Lib.hid N4
            rw [← N3] at hown hLl
            clear N1 N2 N4 N3 HL
            generalize ws[k] = x at *
            generalize frL wd L = f at *
            go_wp2_with fail
            go_roundw
            case rel => first | exact ⟨k + 1, L', by omega, by go_num, M1.out, by rw [M2.out]; exact hown, by rw [M4.out], hbel⟩ | ((repeat apply Exists.intro); exact ⟨⟨k + 1, L', by omega, by go_num, M1.out, by rw [M2.out]; exact hown, by rw [M4.out], hbel⟩, rfl⟩)
            case measure => simp [intOf]; omega
    · obtain rfl : k = ws.length := by omega
      obtain ⟨q1, q2⟩ := HL.out
      rw [List.take_length] at q1
      have hLrow : Row .i64 wr u15 ((sts 0 L).map fun (x : Nat) => (x : Int)) := row_of_own (by rw [List.length_map, sts_len, List.map_map]; exact hown) (fun x hx => by
        obtain ⟨y, hy, rfl⟩ := List.mem_map.1 hx
        obtain ⟨i, hi, rfl⟩ := List.mem_iff_getElem.1 hy
        have h1 := sts_at L 0 i (by rwa [sts_len] at hi)
        rw [List.getElem?_eq_getElem hi] at h1
        have h2 := off_le L i
        rw [q1] at h2
        have h3 := Option.some.inj h1
        exact wfi _ (by omega))
      have hle1 := hopt L q1 q2
      have hgs := gls_sts wd ws hws
      have hle2 := hopt (gls wd ws) (gls_flat wd ws) (gls_fit wd ws hws)
      have hgf := gr_fewest wd L (by rw [q1]; exact fun n hn => (hws n hn).1) q2 0
      have hgf2 := gr_fewest wd ls (by rw [HFL.out]; exact fun n hn => (hws n hn).1) hfit 0
      rw [q1] at hgf
      rw [HFL.out] at hgf2
      have C1 := Lib.hid (fun W h h2 => cost_is (.slice A ws.length c) u15 ws L wd W q1 h h2 hws q2 (by omega) (by omega) (by omega))
      have C2 := Lib.hid (fun W h h2 => cost_is (.slice A ws.length c) v5 ws ls wd W HFL.out h h2 hws hfit (by omega) (by omega) (by omega))
      have C3 := Lib.hid (fun W h h2 => cost_is (.slice A ws.length c) v3 ws (gls wd ws) wd W (gls_flat wd ws) h h2 hws (gls_fit wd ws hws) (by omega) (by omega) (by omega))
      rw [hgs] at C3
      obtain ⟨A3, c3, hv3, hx3, hy3, _, _⟩ := id hgrow
      obtain ⟨A5, c5, hv5, hx5, hy5, _, _⟩ := id hbrow
      obtain ⟨A7, c7, hv7, hx7, hy7, _, _⟩ := id hLrow
      rw [List.length_map] at hv3 hv5 hv7
      rw [sts_len] at hv5 hv7
      replace hrow := hrow.later hbel
      replace hgrow := hgrow.later hbel
      replace hbrow := hbrow.later hbel
      have k7 := bstep k6 hbel
      subst hv3; subst hv5; subst hv7
      clear hgs q1 q2 hown hbel k6 h1 hbd hbr hx3 hx5 hx7 hopt
      unfold maxLen at hy3 hy5 hy7
      generalize pcost wd ls = p0 at *
      generalize pcost wd L = p1 at *
      generalize pcost wd (gls wd ws) = p2 at *
      go_wp2_with fail
      refine (C1.out _ hrow hLrow).mono ?_
      rintro e w8 ⟨rfl, hb8⟩
      have k8 := bstep k7 hb8
      replace hrow := hrow.later hb8
      replace hgrow := hgrow.later hb8
      replace hbrow := hbrow.later hb8
      clear hb8 k7 C1
      go_wp2_with fail
      refine (C2.out _ hrow hbrow).mono ?_
      rintro e w9 ⟨rfl, hb9⟩
      have k9 := bstep k8 hb9
      replace hrow := hrow.later hb9
      replace hgrow := hgrow.later hb9
      clear hb9 k8 C2
      go_wp2_with fail
      refine (C3.out _ hrow hgrow).mono ?_
      rintro e w10 ⟨rfl, hb10⟩
      have k10 := bstep k9 hb10
      clear hb10 k9 C3 hrow hgrow hbrow hLrow
      generalize gr wd (-1) 0 ws = G at *
      go_wp2_with fail
      go_ret
      exact ⟨rfl, k10⟩
end Go.Proofs.Ytifjahfolmhhpaa
