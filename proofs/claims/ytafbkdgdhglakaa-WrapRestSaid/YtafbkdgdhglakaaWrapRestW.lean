/-
  The walk of WrapRest: at every input it returns true, and nothing that was there is changed.
-/
import Derived.Test.YtafbkdgdhglakaaWrapG
import Derived.Test.YtafbkdgdhglakaaCopy
namespace Go.Proofs.Ytafbkdgdhglakaa
open Go.RowKit
set_option linter.unusedVariables false

theorem gr_shift (w : Int) (l : List Int) : ∀ (f : Int) (i c : Nat), gr w f (i + c) l = (gr w f i l).map (· + c) := by
  induction l with
  | nil => intro f i c; rfl
  | cons n l ih =>
    intro f i c
    have e : i + c + 1 = (i + 1) + c := by omega
    by_cases h : n > f - 1
    · simp only [gr, if_pos h, e, ih, List.map_cons]
    · simp only [gr, if_neg h, e, ih]
theorem gr_next (w : Int) (l : List Int) (hl : ∀ n ∈ l, 1 ≤ n) : ∀ (f : Int) (i : Nat), gr w f i l = [] ∨ ∃ j, j < l.length ∧ gr w f i l = gr w (-1) (i + j) (l.drop j) ∧ (gr w f i l).head? = some (i + j) := by
  induction l with
  | nil => intro f i; left; rfl
  | cons n l ih =>
    intro f i
    by_cases h : n > f - 1
    · right; refine ⟨0, by simp, ?_, ?_⟩
      · have h1 := hl n (by simp)
        simp only [gr, if_pos h, List.drop_zero, Nat.add_zero]
        rw [if_pos (by omega)]
      · simp only [gr, if_pos h]; rfl
    · rcases ih (fun m hm => hl m (by simp [hm])) (f - (n + 1)) (i + 1) with h0 | ⟨j, hj, he, hh⟩
      · left; simp only [gr, if_neg h]; exact h0
      · right; refine ⟨j + 1, by simp; omega, ?_, ?_⟩
        · simp only [gr, if_neg h]; rw [he]; simp only [List.drop_succ_cons]; congr 1; omega
        · simp only [gr, if_neg h]; rw [hh]; congr 1; omega
/-- Without its first line the rest is wrapped as it was. -/
theorem gr_rest (w : Int) (l : List Int) (hl : ∀ n ∈ l, 1 ≤ n) (x y : Nat) (t : List Nat) (h : gr w (-1) 0 l = x :: y :: t) :
    x = 0 ∧ y < l.length ∧ (gr w (-1) 0 (l.drop y)).map (· + y) = y :: t := by
  cases l with
  | nil => simp [gr] at h
  | cons n l =>
    have h1 := hl n (by simp)
    simp only [gr, if_pos (show n > -1 - 1 by omega)] at h
    simp only [List.cons.injEq] at h
    obtain ⟨hx, h⟩ := h
    rcases gr_next w l (fun m hm => hl m (by simp [hm])) (w - n) (0 + 1) with h0 | ⟨j, hj, he, hh⟩
    · rw [h0] at h; simp at h
    · rw [h] at hh; simp at hh
      have hy : y = j + 1 := by omega
      subst hy
      refine ⟨hx.symm, by simp; omega, ?_⟩
      rw [List.drop_succ_cons, ← h, he, ← gr_shift]
      congr 1; omega
theorem gr_same (w k : Int) (q : Nat) (hk : 1 ≤ k) (hq1 : (q : Int) * (k + 1) ≤ w + 1) (hq2 : w + 1 < ((q : Int) + 1) * (k + 1)) (m : Nat) :
    ∀ (j i c : Nat), 1 ≤ j → j ≤ q → i = c * q + j → ∀ t x, (gr w (w + 1 - j * (k + 1)) i (List.replicate m k))[t]? = some x → x = (c + 1 + t) * q := by
  induction m with
  | zero => intro j i c _ _ _ t x h; simp [gr] at h
  | succ m ih =>
    intro j i c h1 h2 hi t x h
    rw [List.replicate_succ] at h
    by_cases hj : j = q
    · subst hj
      have hgt : k > w + 1 - (j : Int) * (k + 1) - 1 := by
        rw [Int.add_mul] at hq2; omega
      simp only [gr, if_pos hgt] at h
      cases t with
      | zero => simp at h; subst h; rw [hi]; simp [Nat.add_mul]
      | succ t =>
        simp only [List.getElem?_cons_succ] at h
        have e : w - k = w + 1 - ((1 : Nat) : Int) * (k + 1) := by omega
        rw [e] at h
        have := ih 1 (i + 1) (c + 1) (by omega) h1 (by rw [hi, Nat.add_mul]; omega) t x h
        rw [this]; congr 1; omega
    · have hle : ((j : Int) + 1) * (k + 1) ≤ (q : Int) * (k + 1) := Int.mul_le_mul_of_nonneg_right (by omega) (by omega)
      have hgt : ¬ (k > w + 1 - (j : Int) * (k + 1) - 1) := by
        rw [Int.add_mul] at hle; omega
      simp only [gr, if_neg hgt] at h
      have e : w + 1 - (j : Int) * (k + 1) - (k + 1) = w + 1 - ((j + 1 : Nat) : Int) * (k + 1) := by
        rw [Int.natCast_add, Int.add_mul]; omega
      rw [e] at h
      exact ih (j + 1) (i + 1) c (by omega) (by omega) (by omega) t x h
/-- Words of one width: every line but the last has as many. -/
theorem gr_same_all (w k : Int) (hk : 1 ≤ k) (hkw : k ≤ w) (m : Nat) (t x : Nat) (h : (gr w (-1) 0 (List.replicate m k))[t]? = some x) : (x : Int) = t * ((w + 1) / (k + 1)) := by
  cases m with
  | zero => simp [gr] at h
  | succ m =>
    rw [List.replicate_succ] at h
    simp only [gr, if_pos (show k > -1 - 1 by omega)] at h
    cases t with
    | zero => simp at h; subst h; simp
    | succ t =>
      simp only [List.getElem?_cons_succ] at h
      have hd0 : 0 ≤ (w + 1) / (k + 1) := Int.ediv_nonneg (by omega) (by omega)
      have hd1 : 1 ≤ (w + 1) / (k + 1) := (Int.le_ediv_iff_mul_le (by omega)).2 (by omega)
      have hm := Int.emod_add_mul_ediv (w + 1) (k + 1)
      have hr1 := Int.emod_nonneg (w + 1) (show k + 1 ≠ 0 by omega)
      have hr2 := Int.emod_lt_of_pos (w + 1) (show 0 < k + 1 by omega)
      generalize hq : (w + 1) / (k + 1) = qq at *
      obtain ⟨q, rfl⟩ := Int.eq_ofNat_of_zero_le hd0
      have e : w - k = w + 1 - ((1 : Nat) : Int) * (k + 1) := by omega
      rw [e] at h
      have c1 : (k + 1) * (q : Int) = (q : Int) * (k + 1) := Int.mul_comm _ _
      have := gr_same w k q hk (by omega) (by rw [Int.add_mul]; omega) m 1 (0 + 1) 0 (by omega) (by omega) (by omega) t x h
      rw [this]; simp [Int.natCast_mul, Int.natCast_add]
      congr 1; omega

set_option maxRecDepth 100000 in
set_option maxHeartbeats 4000000 in
theorem wrapRest_walk (w : World) (v0 : Value) (l : List Int) (h0 : Row .i64 w v0 l) (wide : Int) (hwide : -9223372036854775808 ≤ wide ∧ wide ≤ 9223372036854775807) (n : Int) (hn : -9223372036854775808 ≤ n ∧ n ≤ 9223372036854775807) (width : Int) (hwidth : -9223372036854775808 ≤ width ∧ width ≤ 9223372036854775807) :
    Calls Try.prog 7 #[v0, .int .i64 wide, .int .i64 n, .int .i64 width] w fun e w' => e = .returned (.bool true) ∧ Below w.heap.size w w' := by
  obtain ⟨i0, hi, hz0, hz1, hz2⟩ := info_parts int_info
  have hp := fun W => picked_any wide 40 W hwide (by omega) (by omega)
  have hm := Int.emod_nonneg wide (show (40 : Int) ≠ 0 by omega)
  have hm2 := Int.emod_lt_of_pos wide (show (0 : Int) < 40 by omega)
  generalize wide % 40 = y at *
  have HP := Lib.hid hp
  clear hp
  go_enter Try.func7, Try.ntmps7
  go_wp2_with fail
  refine (HP.out _).mono ?_
  rintro e w' ⟨rfl, rfl⟩
  clear HP
  go_wp2_with fail
  obtain ⟨wd, hwd⟩ : ∃ wd : Int, 4 + y = wd := ⟨_, rfl⟩
  have hw4 : 4 ≤ wd ∧ wd ≤ 43 := by omega
  have HW := Lib.hid (fun W h => widths_any v0 l 60 wd W h (by omega) (by omega) (by omega))
  rw [← hwd] at HW
  refine (HW.out _ h0).mono ?_
  rw [hwd]
  rintro e w1 ⟨v, ws, rfl, hown, hws, hwl, k1⟩
  clear HW hwd hm hm2 h0
  have hrow : Row .i64 w1 v ws := row_of_own hown (fun x hx => wfi x (by have := hws x hx; omega))
  clear hown
  go_wp2_with (at_builtin; refine wpList_copyInts rfl (.tmp 31) _ rfl 3 .i64 _ 8 Try.underlying29 int_info rfl v ws rfl hrow (by omega) (by omega) ?_)
  intro v2 w2 _ hrow2 hb2
  have k2 := bstep k1 hb2
  replace hrow := hrow.later hb2
  clear k1 hb2
  go_wp2_with fail
  refine (greedy_any v2 ws wd _ hrow2 hws (by omega) (by omega) (by omega)).mono ?_
  rintro e w3 ⟨v3, rfl, hown3, hb3⟩
  have k3 := bstep k2 hb3
  replace hrow := hrow.later hb3
  clear k2 hb3 hrow2
  have G1 := Lib.hid (fun W (h : World) (hh : W = h.alloc (.cells #[.int .i64 1] 3)) => greedy_any (.slice (some ⟨h.heap.size, 0, none⟩) 1 1) [1] 1 W (by rw [hh]; exact Row.lit h 3 .i64 [1] (by decide) (by intro x hx; simp at hx; subst hx; exact wfi 1 (by omega))) (by intro x hx; simp at hx; omega) (by decide) (by decide) (by decide))
  go_wp2_with fail
  refine (G1.out _ w3 rfl).mono ?_
  rintro e w4 ⟨v4, rfl, hown4, hb4⟩
  clear G1
  have hb34 : Below w3.heap.size w3 w4 := bstep_alloc hb4
  have k4 := bstep k3 hb34
  replace hrow := hrow.later hb34
  replace hown3 := own_below hown3 hb34
  clear k3 hb34 hb4
  rw [show gr 1 (-1) 0 [1] = [0] by decide] at hown4
  obtain ⟨g4, c4, hv4, _⟩ := hown4.form (by decide)
  have hv4' : v4 = .slice (some ⟨g4, 0, none⟩) 1 c4 := hv4
  subst hv4'
  clear hown4 hv4
  have hgl := gr_len wd ws (-1) 0
  have hgb := gr_bd wd ws (-1) 0
  have HREST := Lib.hid (gr_rest wd ws (fun n h => (hws n h).1))
  have HG := Lib.hid (gr_len wd)
  obtain ⟨A3, c3, rfl, hl3, hc3⟩ := own_slice hown3
  generalize gr wd (-1) 0 ws = G at *
  by_cases hG : 1 < G.length
  · rcases G with _ | ⟨x, _ | ⟨yy, t⟩⟩
    · simp at hG
    · simp at hG
    obtain ⟨rfl, hyl, hmap⟩ := HREST.out x yy t rfl
    have hGb := HG.out (ws.drop yy) (-1) 0
    have hdl : (ws.drop yy).length = ws.length - yy := List.length_drop
    obtain ⟨A, c, rfl, hcl, hcc, _, hrd⟩ := id hrow
    obtain ⟨b, off, rfl, hbl, _⟩ := hrd.plain (by omega) (by omega)
    have hrowd := Row.drop hrow (y := yy) (by omega) (by omega)
    obtain ⟨ga, ca, hva, _, hgal⟩ := hown3.form (by simp)
    injection hva with hva1 _ hva3
    subst hva1
    subst hva3
    have hx1 : w4.cell? ⟨ga, 1, none⟩ = some (.int .i64 (yy : Int)) := hown3.cellAt 1 (by simp)
    have hG2 : decide ((1 : Int) < ((0 :: yy :: t).length : Int)) = true := by simp; omega
    have hGl : (0 :: yy :: t).length = t.length + 2 := rfl
    rw [hGl] at *
    clear hrd hgb
    have hwsd : ∀ x ∈ ws.drop yy, 1 ≤ x ∧ x ≤ wd := fun x h => hws x (List.mem_of_mem_drop h)
    generalize hX : ws.drop yy = X at *
    have HX := Lib.hid hX
    clear hX
    unfold maxLen at hcc hc3
    rw [hdl] at hGb
    have HMAP := Lib.hid hmap
    have HDL := Lib.hid hdl
    clear hmap hdl
    have hXl : X.length ≤ 60 := by have := HDL.out; omega
    go_wp2_with (at_builtin; refine wpList_copyInts rfl (.tmp 61) _ rfl 3 .i64 _ 8 Try.underlying29 int_info rfl _ X rfl hrowd (by omega) (by omega) ?_)
    intro v5 w5 _ hrow5 hb5
    have k5 := bstep k4 hb5
    replace hown3 := own_below hown3 hb5
    have hgal5 := Nat.lt_of_lt_of_le hgal hb5.size
    clear hx1 hb5 hrowd k4 hbl hgal hG2 hrow
    go_wp2_with fail
    refine (greedy_any v5 X wd _ hrow5 hwsd (by omega) (by omega) (by omega)).mono ?_
    rintro e w6 ⟨v6, rfl, hown6, hb6⟩
    have k6 := bstep k5 hb6
    replace hown3 := own_below hown3 hb6
    have hgal6 := Nat.lt_of_lt_of_le hgal5 hb6.size
    have hgbl : (gr wd (-1) 0 X).length = t.length + 1 := by have := congrArg List.length HMAP.out; simpa using this
    have hgbd := gr_bd wd X (-1) 0
    generalize gr wd (-1) 0 X = Gb at *
    rw [hgbl] at hown6
    have HGBL := Lib.hid hgbl
    clear hgbl hrow5 k5 hb6 hgal5
    obtain ⟨A6, c6, rfl, hl6, hc6⟩ := own_slice hown6
    unfold maxLen at hc6
    have htl : t.length ≤ 60 := by have := HGBL.out; omega
    have hq : ((t.length : Int) + 1 != (t.length : Int) + 2 - 1) = false := by simp; omega
    go_wp2_with fail
    go_loopw [17] (fun i w7 => ∃ t' q : Nat, t' ≤ t.length + 1 ∧ i = .int .i64 t' ∧ w7 = w6.drewN q) (fun i _ => t.length + 1 - (intOf i).toNat)
    case atStart => exact ⟨0, 0, Nat.zero_le _, rfl, rfl⟩
    case round =>
      obtain ⟨i, q, hi', rfl, rfl⟩ := hrel
      by_cases hlt : i < t.length + 1
      · obtain ⟨g6, c6', hv6, _, hg6⟩ := hown6.form (by omega)
        injection hv6 with hv1 _ hv3
        subst hv1
        subst hv3
        have hiG : i < Gb.length := by rw [HGBL.out]; exact hlt
        have hx0 : w6.cell? ⟨g6, i, none⟩ = some (.int .i64 (Gb[i] : Int)) := by
          have := hown6.cellAt i (by omega)
          rw [this, List.getElem?_map, List.getElem?_eq_getElem hiG]; rfl
        have hx1 : w6.cell? ⟨ga, 1, none⟩ = some (.int .i64 (yy : Int)) := hown3.cellAt 1 (by have : (0 :: yy :: t).length = t.length + 2 := rfl; omega)
        have hx2 : w6.cell? ⟨ga, i + 1, none⟩ = some (.int .i64 ((Gb[i] : Int) + (yy : Int))) := by
          have h1 := hown3.cellAt (i + 1) (by have : (0 :: yy :: t).length = t.length + 2 := rfl; omega)
          have h2 : (yy :: t)[i]? = some (Gb[i] + yy) := by rw [← HMAP.out, List.getElem?_map, List.getElem?_eq_getElem hiG]; rfl
          rw [h1, List.getElem?_map, List.getElem?_cons_succ, h2]; simp
        have hgi : Gb[i] ≤ 100 := by have := hgbd Gb[i] (List.getElem_mem hiG); omega
        generalize Gb[i] = p at *
        have hi0 : (0 : Int) ≤ (i : Int) := by omega
        have hi1 : (0 : Int) ≤ (i : Int) + 1 := by omega
        have hi2 : (i : Int) + 1 < (t.length : Int) + 2 := by omega
        have hi3 : (i : Int) < (t.length : Int) + 1 := by omega
        have hi4 : ((i : Int) + 1).toNat = i + 1 := by omega
        have hw1 : IntKind.i64.wrap ((p : Int) + (yy : Int)) = (p : Int) + (yy : Int) := IntWalk.i64_in _ (by omega)
        have hw2 : IntKind.i64.wrap ((i : Int) + 1) = (i : Int) + 1 := IntWalk.i64_in _ (by omega)
        go_wp2_with fail
        go_quiet (fail)
        go_wp2_with fail
        go_roundw
        case rel => first | exact ⟨i + 1, q + nq, by omega, by go_num, rfl⟩ | ((repeat apply Exists.intro); exact ⟨⟨i + 1, q + nq, by omega, by go_num, rfl⟩, rfl⟩)
        case measure => simp [intOf]; omega
      · have k7 := k6
        go_wp2_with fail
        refine (picked_any width wd _ hwidth (by omega) (by omega)).mono ?_
        rintro e w' ⟨rfl, rfl⟩
        have hkk1 := Int.emod_nonneg width (show wd ≠ 0 by omega)
        have hkk2 := Int.emod_lt_of_pos width (show 0 < wd by omega)
        generalize width % wd = kz at *
        have hpn := fun W => picked_any n 70 W hn (by omega) (by omega)
        have hm1 := Int.emod_nonneg n (show (70 : Int) ≠ 0 by omega)
        have hm2 := Int.emod_lt_of_pos n (show (0 : Int) < 70 by omega)
        obtain ⟨nn, hnn⟩ : ∃ nn : Nat, n % 70 = (nn : Int) := ⟨(n % 70).toNat, by omega⟩
        rw [hnn] at hpn
        have HPN := Lib.hid hpn
        have hnn2 : nn < 70 := by omega
        clear hnn hm1 hm2 hpn
        obtain ⟨kk, hkk⟩ : ∃ kk : Int, 1 + kz = kk := ⟨_, rfl⟩
        have hkb : 1 ≤ kk ∧ kk ≤ wd := by omega
        go_wp2_with fail
        clear hkk hkk1 hkk2 HREST hown3
        try clear hrow
        go_loopw [19, 20] (fun o i wr => ∃ k : Nat, k ≤ nn ∧ i = .int .i64 k ∧ wr.ownsRow w.heap.size 3 1 o k ((List.replicate k kk).map (.int .i64)) ∧ Below w.heap.size w wr) (fun _ i _ => nn - (intOf i).toNat)
        case atStart => exact ⟨0, Nat.zero_le _, rfl, World.ownsRow_nil _ _ _ _, by first | exact k4 | exact below_drewN k7 _⟩
        case round =>
          obtain ⟨k, hk, rfl, hown, hbel⟩ := hrel
          by_cases hlt : k < nn
          · go_wp2_with fail
            refine (HPN.out _).mono ?_
            rintro e w' ⟨rfl, rfl⟩
            go_wp2_with (at_builtin; refine wpList_app1 rfl (.tmp 107) (.tmp 109) _ rfl w.heap.size 3 _ 8 Try.underlying29 int_info rfl _ _ _ rfl hown (.int .i64 kk) rfl rfl rfl (by omega) (by omega) hbel.size ?_)
            intro v' w8 hown' hbel' _
            replace hbel' := hbel' _ (Nat.le_refl _) _ hbel
            go_wp2_with fail
            go_roundw
            case rel => exact ⟨k + 1, by omega, by go_num, by rw [List.replicate_succ']; simpa using hown', hbel'⟩
            case measure => simp [intOf]; omega
          · obtain rfl : k = nn := by omega
            have hrs : Row .i64 wr u19 (List.replicate k kk) := row_of_own (by simpa using hown) (fun x hx => wfi x (by have := (List.mem_replicate.1 hx).2; omega))
            have hsame := fun t x => gr_same_all wd kk hkb.1 hkb.2 k t x
            have HS := Lib.hid hsame
            clear hsame hown
            go_wp2_with fail
            refine (HPN.out _).mono ?_
            rintro e w' ⟨rfl, rfl⟩
            go_wp2_with fail
            refine (greedy_any _ _ wd _ hrs (fun x hx => by have := (List.mem_replicate.1 hx).2; omega) (by simp; omega) (by omega) (by omega)).mono ?_
            rintro e w9 ⟨v9, rfl, hown9, hb9⟩
            have k9 := bstep hbel hb9
            have hgl9 := HG.out (List.replicate k kk) (-1) 0
            rw [List.length_replicate] at hgl9
            generalize gr wd (-1) 0 (List.replicate k kk) = G9 at *
            obtain ⟨A9, c9, rfl, hl9, hc9⟩ := own_slice hown9
            unfold maxLen at hc9
            clear hb9 hbel hrs
            obtain ⟨D, hD⟩ : ∃ D : Int, (wd + 1) / (kk + 1) = D := ⟨_, rfl⟩
            have hD0 : 0 ≤ D := by rw [← hD]; exact Int.ediv_nonneg (by omega) (by omega)
            have hD1 : D ≤ 44 := by rw [← hD]; have := Int.ediv_le_self (kk + 1) (show 0 ≤ wd + 1 by omega); omega
            rw [hD] at HS
            have HD := Lib.hid hD
            clear hD
            have hG9 : G9.length ≤ 70 := by omega
            go_wp2_with fail
            clear hnn2 hk hlt
            go_loopw [23] (fun i w8 => ∃ t q : Nat, t ≤ G9.length ∧ i = .int .i64 t ∧ w8 = w9.drewN q) (fun i _ => G9.length - (intOf i).toNat)
            case atStart => exact ⟨0, 0, Nat.zero_le _, rfl, rfl⟩
            case round =>
              obtain ⟨t, q, ht, rfl, rfl⟩ := hrel
              by_cases hlt : t < G9.length
              · obtain ⟨g9, c9', hv9, _, hg9⟩ := hown9.form (by omega)
                injection hv9 with hv1 _ hv3
                subst hv1
                subst hv3
                have hx : w9.cell? ⟨g9, t, none⟩ = some (.int .i64 (G9[t] : Int)) := by
                  have := hown9.cellAt t (by omega)
                  rw [this, List.getElem?_map, List.getElem?_eq_getElem hlt]; rfl
                have he := HS.out t G9[t] (List.getElem?_eq_getElem hlt)
                rw [he] at hx
                clear he
                have hp1 : 0 ≤ (t : Int) * D := Int.mul_nonneg (by omega) hD0
                have hp2 : (t : Int) * D ≤ 80 * 44 := Int.mul_le_mul (by omega) hD1 hD0 (by omega)
                have ht0 : (0 : Int) ≤ (t : Int) := by omega
                have hw1 : IntKind.i64.wrap ((t : Int) * D) = (t : Int) * D := IntWalk.i64_in _ (by omega)
                have hw2 : IntKind.i64.wrap (wd + 1) = wd + 1 := IntWalk.i64_in _ (by omega)
                have hw3 : IntKind.i64.wrap (kk + 1) = kk + 1 := IntWalk.i64_in _ (by omega)
                have hw4' : IntKind.i64.wrap ((wd + 1).tdiv (kk + 1)) = D := by rw [Int.tdiv_eq_ediv_of_nonneg (by omega), HD.out]; exact IntWalk.i64_in _ (by omega)
                have hk0 : (kk + 1 == 0) = false := by rw [beq_eq_false_iff_ne]; omega
                go_wp2_with fail
                go_quiet (fail)
                go_wp2_with fail
                go_roundw
                case rel => first | exact ⟨t + 1, q + nq, by omega, by go_num, rfl⟩ | ((repeat apply Exists.intro); exact ⟨⟨t + 1, q + nq, by omega, by go_num, rfl⟩, rfl⟩)
                case measure => simp [intOf]; omega
              · go_wp2_with fail
                go_ret
                exact ⟨rfl, below_drewN k9 _⟩
  · have hG2 : decide ((1 : Int) < (G.length : Int)) = false := by simp; omega
    go_wp2_with fail
    refine (picked_any width wd _ hwidth (by omega) (by omega)).mono ?_
    rintro e w' ⟨rfl, rfl⟩
    have hkk1 := Int.emod_nonneg width (show wd ≠ 0 by omega)
    have hkk2 := Int.emod_lt_of_pos width (show 0 < wd by omega)
    generalize width % wd = kz at *
    have hpn := fun W => picked_any n 70 W hn (by omega) (by omega)
    have hm1 := Int.emod_nonneg n (show (70 : Int) ≠ 0 by omega)
    have hm2 := Int.emod_lt_of_pos n (show (0 : Int) < 70 by omega)
    obtain ⟨nn, hnn⟩ : ∃ nn : Nat, n % 70 = (nn : Int) := ⟨(n % 70).toNat, by omega⟩
    rw [hnn] at hpn
    have HPN := Lib.hid hpn
    have hnn2 : nn < 70 := by omega
    clear hnn hm1 hm2 hpn
    obtain ⟨kk, hkk⟩ : ∃ kk : Int, 1 + kz = kk := ⟨_, rfl⟩
    have hkb : 1 ≤ kk ∧ kk ≤ wd := by omega
    go_wp2_with fail
    clear hkk hkk1 hkk2 HREST hown3
    try clear hrow
    go_loopw [19, 20] (fun o i wr => ∃ k : Nat, k ≤ nn ∧ i = .int .i64 k ∧ wr.ownsRow w.heap.size 3 1 o k ((List.replicate k kk).map (.int .i64)) ∧ Below w.heap.size w wr) (fun _ i _ => nn - (intOf i).toNat)
    case atStart => exact ⟨0, Nat.zero_le _, rfl, World.ownsRow_nil _ _ _ _, by first | exact k4 | exact below_drewN k7 _⟩
    case round =>
      obtain ⟨k, hk, rfl, hown, hbel⟩ := hrel
      by_cases hlt : k < nn
      · go_wp2_with fail
        refine (HPN.out _).mono ?_
        rintro e w' ⟨rfl, rfl⟩
        go_wp2_with (at_builtin; refine wpList_app1 rfl (.tmp 107) (.tmp 109) _ rfl w.heap.size 3 _ 8 Try.underlying29 int_info rfl _ _ _ rfl hown (.int .i64 kk) rfl rfl rfl (by omega) (by omega) hbel.size ?_)
        intro v' w8 hown' hbel' _
        replace hbel' := hbel' _ (Nat.le_refl _) _ hbel
        go_wp2_with fail
        go_roundw
        case rel => exact ⟨k + 1, by omega, by go_num, by rw [List.replicate_succ']; simpa using hown', hbel'⟩
        case measure => simp [intOf]; omega
      · obtain rfl : k = nn := by omega
        have hrs : Row .i64 wr u19 (List.replicate k kk) := row_of_own (by simpa using hown) (fun x hx => wfi x (by have := (List.mem_replicate.1 hx).2; omega))
        have hsame := fun t x => gr_same_all wd kk hkb.1 hkb.2 k t x
        have HS := Lib.hid hsame
        clear hsame hown
        go_wp2_with fail
        refine (HPN.out _).mono ?_
        rintro e w' ⟨rfl, rfl⟩
        go_wp2_with fail
        refine (greedy_any _ _ wd _ hrs (fun x hx => by have := (List.mem_replicate.1 hx).2; omega) (by simp; omega) (by omega) (by omega)).mono ?_
        rintro e w9 ⟨v9, rfl, hown9, hb9⟩
        have k9 := bstep hbel hb9
        have hgl9 := HG.out (List.replicate k kk) (-1) 0
        rw [List.length_replicate] at hgl9
        generalize gr wd (-1) 0 (List.replicate k kk) = G9 at *
        obtain ⟨A9, c9, rfl, hl9, hc9⟩ := own_slice hown9
        unfold maxLen at hc9
        clear hb9 hbel hrs
        obtain ⟨D, hD⟩ : ∃ D : Int, (wd + 1) / (kk + 1) = D := ⟨_, rfl⟩
        have hD0 : 0 ≤ D := by rw [← hD]; exact Int.ediv_nonneg (by omega) (by omega)
        have hD1 : D ≤ 44 := by rw [← hD]; have := Int.ediv_le_self (kk + 1) (show 0 ≤ wd + 1 by omega); omega
        rw [hD] at HS
        have HD := Lib.hid hD
        clear hD
        have hG9 : G9.length ≤ 70 := by omega
        go_wp2_with fail
        clear hnn2 hk hlt
        go_loopw [23] (fun i w8 => ∃ t q : Nat, t ≤ G9.length ∧ i = .int .i64 t ∧ w8 = w9.drewN q) (fun i _ => G9.length - (intOf i).toNat)
        case atStart => exact ⟨0, 0, Nat.zero_le _, rfl, rfl⟩
        case round =>
          obtain ⟨t, q, ht, rfl, rfl⟩ := hrel
          by_cases hlt : t < G9.length
          · obtain ⟨g9, c9', hv9, _, hg9⟩ := hown9.form (by omega)
            injection hv9 with hv1 _ hv3
            subst hv1
            subst hv3
            have hx : w9.cell? ⟨g9, t, none⟩ = some (.int .i64 (G9[t] : Int)) := by
              have := hown9.cellAt t (by omega)
              rw [this, List.getElem?_map, List.getElem?_eq_getElem hlt]; rfl
            have he := HS.out t G9[t] (List.getElem?_eq_getElem hlt)
            rw [he] at hx
            clear he
            have hp1 : 0 ≤ (t : Int) * D := Int.mul_nonneg (by omega) hD0
            have hp2 : (t : Int) * D ≤ 80 * 44 := Int.mul_le_mul (by omega) hD1 hD0 (by omega)
            have ht0 : (0 : Int) ≤ (t : Int) := by omega
            have hw1 : IntKind.i64.wrap ((t : Int) * D) = (t : Int) * D := IntWalk.i64_in _ (by omega)
            have hw2 : IntKind.i64.wrap (wd + 1) = wd + 1 := IntWalk.i64_in _ (by omega)
            have hw3 : IntKind.i64.wrap (kk + 1) = kk + 1 := IntWalk.i64_in _ (by omega)
            have hw4' : IntKind.i64.wrap ((wd + 1).tdiv (kk + 1)) = D := by rw [Int.tdiv_eq_ediv_of_nonneg (by omega), HD.out]; exact IntWalk.i64_in _ (by omega)
            have hk0 : (kk + 1 == 0) = false := by rw [beq_eq_false_iff_ne]; omega
            go_wp2_with fail
            go_quiet (fail)
            go_wp2_with fail
            go_roundw
            case rel => first | exact ⟨t + 1, q + nq, by omega, by go_num, rfl⟩ | ((repeat apply Exists.intro); exact ⟨⟨t + 1, q + nq, by omega, by go_num, rfl⟩, rfl⟩)
            case measure => simp [intOf]; omega
          · go_wp2_with fail
            go_ret
            exact ⟨rfl, below_drewN k9 _⟩
end Go.Proofs.Ytafbkdgdhglakaa
