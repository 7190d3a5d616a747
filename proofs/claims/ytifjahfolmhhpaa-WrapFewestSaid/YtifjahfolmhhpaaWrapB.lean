/-
  The walks of wrap.left, wrap.Cost and wrap.Best at words and lines that may be. Nothing that was there is changed.
-/
import Derived.Test.YtifjahfolmhhpaaWrapP
import Derived.Test.YtifjahfolmhhpaaCopy
namespace Go.Proofs.Ytifjahfolmhhpaa
open Go.RowKit
set_option linter.unusedVariables false

theorem lf_ge (w : Int) (l : List Int) (h : ∀ n ∈ l, n ≤ 60) : w + 1 - 61 * (l.length : Int) ≤ lf w l := by
  induction l with
  | nil => simp [lf]
  | cons n l ih => have h1 := h n (by simp); have := ih (fun m hm => h m (by simp [hm])); simp [lf] at *; omega
set_option maxRecDepth 100000 in
set_option maxHeartbeats 1000000 in
theorem left_any (v : Value) (l : List Int) (wd : Int) (w : World) (h : Row .i64 w v l) (hl : l.length ≤ 80) (hb : ∀ x ∈ l, 1 ≤ x ∧ x ≤ 60) (hw : 1 ≤ wd) (hw2 : wd ≤ 60) :
    Calls Try.prog 56 #[v, .int .i64 wd] w fun e w' => e = .returned (.int .i64 (lf wd l)) ∧ w = w' := by
  obtain ⟨A, c, rfl, hl1, hl2, h3, hr⟩ := h
  unfold maxLen at hl2
  have h0 : lf wd (l.take 0) = wd + 1 := by simp [lf]
  have H0 := Lib.hid h0
  clear h0
  go_enter Try.func56, Try.ntmps56
  go_wp2_with fail
  go_loop [5, 12] (fun f i => ∃ k : Nat, k ≤ l.length ∧ i = .int .i64 k ∧ f = .int .i64 (lf wd (l.take k))) (fun _ i => l.length - (intOf i).toNat)
  case atStart => exact ⟨0, Nat.zero_le _, rfl, by rw [H0.out]⟩
  case round =>
    obtain ⟨k, hk, rfl, rfl⟩ := hrel
    by_cases hlt : k < l.length
    · obtain ⟨b0, o0, rfl, hb0, hcell⟩ := Row.at_ hr hlt
      have eg : l.getD k 0 = l[k] := by simp [List.getD, hlt]
      rw [eg] at hcell
      have hx := hb (l[k]) (List.getElem_mem hlt)
      have hge := lf_ge wd (l.take k) (fun n hn => (hb n (List.mem_of_mem_take hn)).2)
      have hle := lf_le wd (l.take k) (fun n hn => (hb n (List.mem_of_mem_take hn)).1)
      have hlk : (l.take k).length = k := by simp; omega
      rw [hlk] at hge
      have hs := lf_snoc wd (l.take k) l[k]
      rw [← List.take_succ_eq_append_getElem hlt] at hs
      generalize l[k] = x at *
      generalize lf wd (l.take k) = f at *
      have HS := Lib.hid hs
      clear hs eg hlk
      go_wp2_with fail
      go_round
      case rel => exact ⟨k + 1, by omega, by go_num, by rw [HS.out]⟩
      case measure => simp [intOf]; omega
    · obtain rfl : k = l.length := by omega
      go_wp2_with fail
      go_ret
      exact ⟨rfl, rfl⟩

def off (ls : List (List Int)) (t : Nat) : Nat := (ls.take t).flatten.length
theorem sts_at (ls : List (List Int)) : ∀ (i t : Nat), t < ls.length → (sts i ls)[t]? = some (i + off ls t) := by
  induction ls with
  | nil => intro i t h; simp at h
  | cons l r ih =>
    intro i t h
    cases t with
    | zero => simp [sts, off]
    | succ t =>
      simp only [sts, List.getElem?_cons_succ]
      rw [ih _ t (by simpa using h)]
      simp [off, Nat.add_assoc]
theorem off_succ (ls : List (List Int)) (t : Nat) (h : t < ls.length) : off ls (t + 1) = off ls t + ls[t].length := by
  unfold off; rw [List.take_succ_eq_append_getElem h, List.flatten_append, List.length_append]; simp
theorem off_le (ls : List (List Int)) (t : Nat) : off ls t ≤ ls.flatten.length := by
  unfold off
  have := congrArg (fun l => l.flatten.length) (List.take_append_drop t ls)
  simp only [List.flatten_append, List.length_append] at this
  omega
theorem off_all (ls : List (List Int)) : off ls ls.length = ls.flatten.length := by unfold off; rw [List.take_length]
theorem line_at (ls : List (List Int)) (t : Nat) (h : t < ls.length) : (ls.flatten.drop (off ls t)).take (ls[t].length) = ls[t] := by
  have e1 : ls = ls.take t ++ (ls[t] :: ls.drop (t + 1)) := by rw [← List.drop_eq_getElem_cons h, List.take_append_drop]
  have e : ls.flatten = (ls.take t).flatten ++ (ls[t] ++ (ls.drop (t + 1)).flatten) := by
    conv => lhs; rw [e1]
    rw [List.flatten_append, List.flatten_cons]
  unfold off
  rw [e, List.drop_left, List.take_left]
theorem pcost_ssq (w : Int) (ls : List (List Int)) : pcost w ls = ssq w (ls.take (ls.length - 1)) := by
  induction ls with
  | nil => simp [pcost, ssq]
  | cons l r ih =>
    cases r with
    | nil => simp [pcost, ssq]
    | cons m r => simp only [pcost, ih, List.length_cons, Nat.add_sub_cancel, List.take_succ_cons, ssq, List.map_cons, List.sum_cons]
theorem ssq_snoc (w : Int) (a : List (List Int)) (l : List Int) : ssq w (a ++ [l]) = ssq w a + lf w l * lf w l := by simp [ssq]
theorem ssq_bd (w : Int) (ls : List (List Int)) (hf : ∀ l ∈ ls, 0 ≤ lf w l ∧ lf w l ≤ 61) : 0 ≤ ssq w ls ∧ ssq w ls ≤ 3721 * (ls.length : Int) := by
  induction ls with
  | nil => simp [ssq]
  | cons l r ih =>
    have h1 := hf l (by simp)
    have h2 := ih (fun x hx => hf x (by simp [hx]))
    have h3 : 0 ≤ lf w l * lf w l := Int.mul_nonneg h1.1 h1.1
    have h4 : lf w l * lf w l ≤ 61 * 61 := Int.mul_le_mul h1.2 h1.2 h1.1 (by omega)
    simp [ssq] at *; omega
theorem fit_len (w : Int) (ls : List (List Int)) (hf : Fit w ls) : ls.length ≤ ls.flatten.length := by
  induction ls with
  | nil => simp
  | cons l r ih =>
    have h1 := (hf l (by simp)).1
    have := ih (fun x hx => hf x (by simp [hx]))
    cases l with
    | nil => exact absurd rfl h1
    | cons n l => simp only [List.length_cons, List.flatten_cons, List.length_append]; omega

def CostPost (c : Int) (w : World) (e : Ending) (w' : World) : Prop := e = .returned (.tuple #[.int .i64 c, .int .i64 0]) ∧ Below w.heap.size w w'
set_option maxRecDepth 100000 in
set_option maxHeartbeats 4000000 in
theorem cost_any (v v2 : Value) (ls : List (List Int)) (wd : Int) (w : World) (h : Row .i64 w v ls.flatten) (h2 : Row .i64 w v2 ((sts 0 ls).map fun (x : Nat) => (x : Int))) (hb : ∀ x ∈ ls.flatten, 1 ≤ x ∧ x ≤ wd) (hf : Fit wd ls) (hl : ls.flatten.length ≤ 80) (hw : 1 ≤ wd) (hw2 : wd ≤ 60) :
    Calls Try.prog 35 #[v, .int .i64 wd, v2] w (CostPost (pcost wd ls) w) := by
  have H := Lib.hid (wrapCheck_any v ls.flatten wd w h hb hl hw hw2)
  have hfl := fit_len wd ls hf
  have hsl : ((sts 0 ls).map fun (x : Nat) => (x : Int)).length = ls.length := by rw [List.length_map, sts_len]
  have hr := id h
  obtain ⟨A, c, rfl, hl1, hl2, h3, _⟩ := h
  obtain ⟨A2, c2, rfl, hl4, hl5, h6, hr2⟩ := id h2
  have hst : ∀ t, t < ls.length → ((sts 0 ls).map fun (x : Nat) => (x : Int)).getD t 0 = (off ls t : Int) := fun t ht => by
    simp [List.getD, sts_at ls 0 t ht]
  have HST := Lib.hid hst
  generalize hS : (sts 0 ls).map (fun (x : Nat) => (x : Int)) = S at *
  have HS := Lib.hid hS
  clear h3 h6 hst hS
  unfold maxLen at hl2 hl5
  have HP := Lib.hid (pcost_ssq wd ls)
  have hle : ∀ l ∈ ls, 0 ≤ lf wd l ∧ lf wd l ≤ 61 := fun l hl => ⟨(hf l hl).2, by have := lf_le wd l (fun n hn => (hb n (List.mem_flatten.2 ⟨l, hl, hn⟩)).1); omega⟩
  generalize hX : ls.flatten = X at *
  have HX := Lib.hid hX
  clear hX
  by_cases hn : ls = []
  · subst hn
    have hX0 : X.length = 0 := by rw [← HX.out]; rfl
    have hp0 : pcost wd [] = 0 := rfl
    rw [hp0]
    rw [hsl]
    rw [hX0] at H ⊢
    clear hX0 hp0 hsl HP hr h2
    go_enter Try.func35, Try.ntmps35
    go_wp2_with fail
    refine H.out.mono ?_
    rintro e w1 ⟨rfl, hb1⟩
    go_wp2_with fail
    refine wp_loop_rounds 1 ?_
    rw [rounds_succ]
    go_wp2_with fail
    go_ret2
    exact ⟨rfl, hb1⟩
  · have hlp : 0 < ls.length := by cases ls with
      | nil => exact absurd rfl hn
      | cons _ _ => simp
    obtain ⟨b2, o2, rfl, hb2, hcs⟩ := hr2.plain (by omega) (by omega)
    have hcs2 : ∀ t, t < ls.length → w.cell? ⟨b2, o2 + t, none⟩ = some (.int .i64 (off ls t : Int)) := fun t ht => by
      refine hcs t _ ?_
      rw [← HST.out t ht, List.getElem?_map, List.getD_eq_getElem?_getD, List.getElem?_eq_getElem (by omega)]
      rfl
    have hc20 := hcs2 0 hlp
    have hoff0 : ((off ls 0 : Nat) : Int) = 0 := by simp [off]
    rw [hoff0, Nat.add_zero] at hc20
    have HCS := Lib.hid hcs2
    clear hoff0 hcs hcs2 hr2 h2
    rw [hsl] at hl4 ⊢
    clear hsl
    have hq1 : ((X.length : Int) == 0) = false := by rw [beq_eq_false_iff_ne]; omega
    have hq2 : ((ls.length : Int) == 0) = false := by rw [beq_eq_false_iff_ne]; omega
    have hq3 : decide ((0 : Int) < (ls.length : Int)) = true := by simp; omega
    go_enter Try.func35, Try.ntmps35
    go_wp2_with fail
    refine H.out.mono ?_
    rintro e w1 ⟨rfl, hb1⟩
    have hc20' : w1.cell? ⟨b2, o2, none⟩ = some (.int .i64 0) := (hb1.cell (p := ⟨b2, o2, none⟩) hb2).trans hc20
    clear hc20 H
    go_wp2_with fail
    obtain ⟨b, o, rfl, hbl, _⟩ := (show Reads w w.heap.size 1 A X.length (X.map (.int .i64)) by obtain ⟨A', c', hv, _, _, _, hh⟩ := id hr; cases hv; exact hh).plain (by omega) (by omega)
    have hr1 := hr.later hb1
    clear hr hq1 hq2 hq3 hc20'
    go_loop [9, 40] (fun cst i => ∃ t : Nat, t ≤ ls.length ∧ i = .int .i64 t ∧ cst = .int .i64 (ssq wd (ls.take (min t (ls.length - 1))))) (fun _ i => ls.length - (intOf i).toNat)
    case atStart => exact ⟨0, Nat.zero_le _, rfl, by simp [ssq]⟩
    case round =>
      obtain ⟨t, ht, rfl, rfl⟩ := hrel
      by_cases hlt : t < ls.length
      · have hos := off_succ ls t hlt
        have hoe := off_le ls (t + 1)
        rw [HX.out] at hoe
        have hlm := hle ls[t] (List.getElem_mem hlt)
        have hlne := (hf ls[t] (List.getElem_mem hlt)).1
        have hlp2 : 0 < ls[t].length := by
          rcases Nat.eq_zero_or_pos ls[t].length with h | h
          · exact absurd (List.length_eq_zero_iff.1 h) hlne
          · exact h
        have hla := line_at ls t hlt
        rw [HX.out] at hla
        have hrt : Row .i64 w1 (.slice (some ⟨b, o + off ls t, none⟩) (ls[t].length) (c - off ls t)) ls[t] := by
          have h1 := Row.drop hr1 (y := off ls t) (by omega) (by omega)
          have h2 := Row.take h1 (y := ls[t].length) (by rw [List.length_drop]; omega)
          rw [hla] at h2; exact h2
        have hmem : ∀ x ∈ ls[t], 1 ≤ x ∧ x ≤ 60 := fun x hx => by
          have := hb x (by rw [← HX.out]; exact List.mem_flatten.2 ⟨_, List.getElem_mem hlt, hx⟩)
          omega
        have hmin : min t (ls.length - 1) = t := by omega
        rw [hmin]
        have hc0 := (hb1.cell (p := ⟨b2, o2 + t, none⟩) hb2).trans (HCS.out t hlt)
        have hsb := ssq_bd wd (ls.take t) (fun l hl => hle l (List.mem_of_mem_take hl))
        have hssn : ssq wd (ls.take (t + 1)) = ssq wd (ls.take t) + lf wd ls[t] * lf wd ls[t] := by rw [List.take_succ_eq_append_getElem hlt, ssq_snoc]
        have HSSN := Lib.hid hssn
        have hlt3 : (ls.take t).length = t := by simp; omega
        rw [hlt3] at hsb
        have hfq : 0 ≤ lf wd ls[t] * lf wd ls[t] ∧ lf wd ls[t] * lf wd ls[t] ≤ 61 * 61 := ⟨Int.mul_nonneg hlm.1 hlm.1, Int.mul_le_mul hlm.2 hlm.2 hlm.1 (by omega)⟩
        have LF := Lib.hid (fun (W : World) (h : Row .i64 W (.slice (some ⟨b, o + off ls t, none⟩) (ls[t].length) (c - off ls t)) ls[t]) => left_any (.slice (some ⟨b, o + off ls t, none⟩) (ls[t].length) (c - off ls t)) ls[t] wd W h (by omega) hmem hw hw2)
        have hlx : ls[t].length = off ls (t + 1) - off ls t := by omega
        by_cases hlast : t + 1 < ls.length
        · have hc1 := (hb1.cell (p := ⟨b2, o2 + (t + 1), none⟩) hb2).trans (HCS.out (t + 1) hlast)
          have hmin2 : min (t + 1) (ls.length - 1) = t + 1 := by omega
          have hf01 : off ls t < off ls (t + 1) := by omega
          have HM := Lib.hid hmin2
          rw [hlx] at LF hrt
          clear hmin hmin2 hssn hlt3 hos hla hlx
          generalize lf wd ls[t] = f at *
          generalize ssq wd (ls.take t) = q at *
          generalize off ls t = f0 at *
          generalize off ls (t + 1) = f1 at *
          have h0t : (0 : Int) ≤ (t : Int) := by omega
          have hd1 : decide ((f1 : Int) ≤ (f0 : Int)) = false := by simp; omega
          have hd2 : decide ((X.length : Int) < (f1 : Int)) = false := by simp; omega
          have hd3 : decide (f < 0) = false := by simp; omega
          go_wp2_with fail
          refine (LF.out _ hrt).mono ?_
          rintro e w' ⟨rfl, rfl⟩
          go_wp2_with fail
          go_round
          case rel => exact ⟨t + 1, by omega, by go_num, by rw [HM.out, HSSN.out]⟩
          case measure => simp [intOf]; omega
        · have hoa := off_all ls
          rw [HX.out] at hoa
          have hte : t + 1 = ls.length := by omega
          rw [hte] at hlx hos
          rw [hoa] at hlx hos
          rw [hlx] at LF hrt
          have hmin2 : min (t + 1) (ls.length - 1) = t := by omega
          have hf01 : off ls t < X.length := by omega
          have HM := Lib.hid hmin2
          have hne : ¬ ((t : Int) + 1 < (ls.length : Int)) := by omega
          have hd0 : decide ((t : Int) + 1 < (ls.length : Int)) = false := by simp; omega
          clear hmin hmin2 hssn hlt3 hla hlx hoa
          generalize lf wd ls[t] = f at *
          generalize hq : ssq wd (ls.take t) = q at *
          have HQ := Lib.hid hq
          clear hq
          generalize off ls t = f0 at *
          have h0t : (0 : Int) ≤ (t : Int) := by omega
          have hd1 : decide ((X.length : Int) ≤ (f0 : Int)) = false := by simp; omega
          have hd3 : decide (f < 0) = false := by simp; omega
          clear hos hte hlast
          go_wp2_with fail
          refine (LF.out _ hrt).mono ?_
          rintro e w' ⟨rfl, rfl⟩
          go_wp2_with fail
          go_round
          case rel => exact ⟨t + 1, by omega, by go_num, by rw [HM.out, HQ.out]⟩
          case measure => simp [intOf]; omega
      · obtain rfl : t = ls.length := by omega
        have e : min ls.length (ls.length - 1) = ls.length - 1 := by omega
        rw [e, ← HP.out]
        clear e
        go_wp2_with fail
        go_ret2
        exact ⟨rfl, hb1⟩

def upd (f : Nat → Int) (i : Nat) (c : Int) : Nat → Int := fun j => if j = i then c else f j
theorem upd_at (f : Nat → Int) (i : Nat) (c : Int) : upd f i c i = c := by simp [upd]
theorem upd_ne (f : Nat → Int) (i j : Nat) (c : Int) (h : j ≠ i) : upd f i c j = f j := by simp [upd, h]
theorem stp_upd (w : Int) (ws : List Int) (C : Nat → Int) (i : Nat) (c : Int) (j k : Nat) (h : i < k) : stp w ws (upd C i c) j k = stp w ws C j k := by
  unfold stp
  rw [upd_ne _ _ _ _ (by omega)]
theorem dp_upd (w : Int) (ws : List Int) (C N : Nat → Int) (i : Nat) (c n : Int) (j : Nat) (h : i < j) (hd : Dp w ws C N j) : Dp w ws (upd C i c) (upd N i n) j := by
  have e1 : upd C i c j = C j := upd_ne _ _ _ _ (by omega)
  have e2 : upd N i n j = N j := upd_ne _ _ _ _ (by omega)
  obtain ⟨⟨k, h1, h2, h3, h4, h5⟩, hl, h6, h7⟩ := hd
  refine ⟨⟨k, by rw [e2]; exact h1, h2, h3, h4, by rw [e1, stp_upd _ _ _ _ _ _ _ (by omega)]; exact h5⟩, fun k hk hk2 hk3 => ?_, by rw [e1]; exact h6, by rw [e1]; exact h7⟩
  rw [e1, stp_upd _ _ _ _ _ _ _ (by omega)]; exact hl k hk hk2 hk3
/-- What stands in the tables at word t while lines up to k are looked at. -/
def Inn (w : Int) (ws : List Int) (C N : Nat → Int) (t k : Nat) : Prop :=
  (k = t ∧ C t = -1) ∨ (t < k ∧ (∃ m : Nat, N t = (m : Int) ∧ t < m ∧ m ≤ k ∧ 0 ≤ lf w (seg ws t m) ∧ C t = stp w ws C t m) ∧ (∀ k', t < k' → k' ≤ k → C t ≤ stp w ws C t k') ∧ 0 ≤ C t ∧ C t ≤ 4000 * ((ws.length : Int) - t))
theorem stp_bd (w : Int) (ws : List Int) (C N : Nat → Int) (t k : Nat) (hw : w ≤ 60) (hp : ∀ n ∈ ws, 1 ≤ n) (h : t < k) (hk : k ≤ ws.length) (hf : 0 ≤ lf w (seg ws t k)) (hd : ∀ j, t < j → j < ws.length → Dp w ws C N j) :
    0 ≤ stp w ws C t k ∧ stp w ws C t k ≤ 4000 * ((ws.length : Int) - t) := by
  have h1 := lf_le w (seg ws t k) (fun n hn => hp n (seg_mem ws t k n hn))
  have h3 : 0 ≤ lf w (seg ws t k) * lf w (seg ws t k) := Int.mul_nonneg hf hf
  have h4 : lf w (seg ws t k) * lf w (seg ws t k) ≤ 61 * 61 := Int.mul_le_mul (by omega) (by omega) hf (by omega)
  unfold stp
  split
  · rename_i hlt
    have := (hd k h hlt).lo
    have := (hd k h hlt).hi
    omega
  · omega
theorem inn_take (w : Int) (ws : List Int) (C N : Nat → Int) (t k : Nat) (hw : w ≤ 60) (hp : ∀ n ∈ ws, 1 ≤ n) (hI : Inn w ws C N t k) (hk : t ≤ k) (hkn : k < ws.length) (hf : 0 ≤ lf w (seg ws t (k + 1))) (hd : ∀ j, t < j → j < ws.length → Dp w ws C N j)
    (hc : C t < 0 ∨ stp w ws C t (k + 1) < C t) : Inn w ws (upd C t (stp w ws C t (k + 1))) (upd N t ((k : Int) + 1)) t (k + 1) := by
  have hb := stp_bd w ws C N t (k + 1) hw hp (by omega) (by omega) hf hd
  refine .inr ⟨by omega, ⟨k + 1, by rw [upd_at]; omega, by omega, Nat.le_refl _, hf, by rw [upd_at, stp_upd _ _ _ _ _ _ _ (by omega)]⟩, fun k' h1 h2 => ?_, by rw [upd_at]; exact hb.1, by rw [upd_at]; exact hb.2⟩
  rw [upd_at, stp_upd _ _ _ _ _ _ _ h1]
  rcases Nat.lt_or_ge k k' with h3 | h3
  · obtain rfl : k' = k + 1 := by omega
    exact Int.le_refl _
  · rcases hI with ⟨h4, h5⟩ | ⟨h4, h5, h6, h7, h8⟩
    · omega
    · have := h6 k' h1 h3
      omega
theorem inn_keep (w : Int) (ws : List Int) (C N : Nat → Int) (t k : Nat) (hI : Inn w ws C N t k) (h1 : ¬ C t < 0) (h2 : ¬ stp w ws C t (k + 1) < C t) : Inn w ws C N t (k + 1) := by
  rcases hI with ⟨h4, h5⟩ | ⟨h4, ⟨m, e1, e2, e3, e4, e5⟩, h6, h7, h8⟩
  · omega
  · refine .inr ⟨by omega, ⟨m, e1, e2, by omega, e4, e5⟩, fun k' h9 h10 => ?_, h7, h8⟩
    rcases Nat.lt_or_ge k k' with h3 | h3
    · obtain rfl : k' = k + 1 := by omega
      omega
    · exact h6 k' h9 h3
theorem inn_dp (w : Int) (ws : List Int) (C N : Nat → Int) (t k : Nat) (hp : ∀ n ∈ ws, 1 ≤ n) (hI : Inn w ws C N t k) (htk : t < k) (hk : k ≤ ws.length) (he : k = ws.length ∨ (k < ws.length ∧ lf w (seg ws t (k + 1)) < 0)) : Dp w ws C N t := by
  rcases hI with ⟨h4, h5⟩ | ⟨h4, ⟨m, e1, e2, e3, e4, e5⟩, h6, h7, h8⟩
  · omega
  · refine ⟨⟨m, e1, e2, by omega, e4, e5⟩, fun k' h9 h10 h11 => ?_, h7, h8⟩
    rcases Nat.lt_or_ge k k' with h3 | h3
    · rcases he with he | ⟨he, h12⟩
      · omega
      · have := lf_seg_mono w ws hp t (k + 1) k' (by omega) (by omega) h10
        omega
    · exact h6 k' h9 h3
theorem rows_take {w : World} {gC gN n : Nat} {e : TypeId} {C N : Nat → Int} (RC : w.rowIs gC e n (fun j => .int .i64 (C j))) (RN : w.rowIs gN e n (fun j => .int .i64 (N j))) (hne : gC ≠ gN) (t : Nat) (c k : Int) :
    ((w.setCell ⟨gC, t, none⟩ (.int .i64 c)).setCell ⟨gN, t, none⟩ (.int .i64 k)).rowIs gC e n (fun j => .int .i64 (upd C t c j)) ∧ ((w.setCell ⟨gC, t, none⟩ (.int .i64 c)).setCell ⟨gN, t, none⟩ (.int .i64 k)).rowIs gN e n (fun j => .int .i64 (upd N t k j)) := by
  have h1 := (RC.set t (.int .i64 c)).congr (g := fun j => .int .i64 (upd C t c j)) (fun j hj => by show (if j = t then _ else _) = _; unfold upd; split <;> rfl)
  have h2 := ((RN.setOther (a := ⟨gC, t, none⟩) (Ne.symm hne) (.int .i64 c)).set t (.int .i64 k)).congr (g := fun j => .int .i64 (upd N t k j)) (fun j hj => by show (if j = t then _ else _) = _; unfold upd; split <;> rfl)
  exact ⟨h1.setOther (a := ⟨gN, t, none⟩) hne (.int .i64 k), h2⟩
def BestPost (wd : Int) (ws : List Int) (w : World) (e : Ending) (w' : World) : Prop := ∃ (v : Value) (ls : List (List Int)), e = .returned (.tuple #[v, .int .i64 0]) ∧ Row .i64 w' v ((sts 0 ls).map fun (x : Nat) => (x : Int)) ∧ ls.flatten = ws ∧ Fit wd ls ∧
  (∀ ls', ls'.flatten = ws → Fit wd ls' → pcost wd ls ≤ pcost wd ls') ∧ Below w.heap.size w w'
set_option maxRecDepth 100000 in
set_option maxHeartbeats 4000000 in
theorem best_any (v : Value) (ws : List Int) (wd : Int) (w : World) (h : Row .i64 w v ws) (hb : ∀ x ∈ ws, 1 ≤ x ∧ x ≤ wd) (hl : ws.length ≤ 80) (h1 : 1 ≤ wd) (h2 : wd ≤ 60) :
    Calls Try.prog 34 #[v, .int .i64 wd] w (BestPost wd ws w) := by
  have H := Lib.hid (wrapCheck_any v ws wd w h hb hl h1 h2)
  have hr := id h
  obtain ⟨A, c, rfl, hl1, hl2, h3, _⟩ := h
  unfold maxLen at hl2
  have hmk : ∀ W : World, (Instr.makeSlice 22 (.int .i64 ((ws.length : Int) + 1)) (.int .i64 ((ws.length : Int) + 1))).run Try.prog W = .ok (.slice (some ⟨W.heap.size, 0, none⟩) (ws.length + 1) (ws.length + 1)) (W.alloc (.cells (madeCells #[.int .i64 0] (ws.length + 1)) 3)) :=
    fun W => run_make_row' (P := Try.prog) 22 3 (.int .i64 0) 8 Try.underlying22 int_info rfl .i64 .i64 (ws.length + 1) (by omega) (by omega) W
  go_enter Try.func34, Try.ntmps34
  go_wp2_with fail
  refine H.out.mono ?_
  rintro e w1 ⟨rfl, hb1⟩
  clear H
  go_wp2_with fail
  go_region
  all_goals
    go_wp2_with fail
    clear hmk h3
    have R1 := ((World.rowIs_made w1 (.int .i64 0) (ws.length + 1) 3).alloc (.cells (madeCells #[.int .i64 0] (ws.length + 1)) 3)).drew
    have R2 := (World.rowIs_made (w1.alloc (.cells (madeCells #[.int .i64 0] (ws.length + 1)) 3)) (.int .i64 0) (ws.length + 1) 3).drew
    have KW := ((hb1.alloc hb1.size (.cells (madeCells #[.int .i64 0] (ws.length + 1)) 3)).alloc (by simp; have := hb1.size; omega) (.cells (madeCells #[.int .i64 0] (ws.length + 1)) 3)).drew
    have hz : (w1.alloc (.cells (madeCells #[.int .i64 0] (ws.length + 1)) 3)).heap.size = w1.heap.size + 1 := by simp
    rw [hz] at R2
    have hz1 : w.heap.size ≤ w1.heap.size := hb1.size
    have hz2 : w.heap.size ≤ w1.heap.size + 1 := by omega
    have hz3 : w1.heap.size ≠ w1.heap.size + 1 := by omega
    have hz4 : w1.heap.size + 1 ≠ w1.heap.size := by omega
    generalize (w1.alloc (.cells (madeCells #[.int .i64 0] (ws.length + 1)) 3)).alloc (.cells (madeCells #[.int .i64 0] (ws.length + 1)) 3) = W2 at *
    generalize W2.drew = W3 at *
    clear hz hb1
  · generalize w1.heap.size + 1 = gN at *
    generalize w1.heap.size = gC at *
    have RC := R1
    have RN := R2
    have hne : gC ≠ gN := hz3
    have hgC := hz1
    have hgN := hz2
    clear R1 R2 hz1 hz2 hz3 hz4
    go_loopw [10] (fun i wr => ∃ (r : Nat) (C N : Nat → Int), r ≤ ws.length ∧ i = .int .i64 ((r : Int) - 1) ∧ wr.rowIs gC 3 (ws.length + 1) (fun j => .int .i64 (C j)) ∧ wr.rowIs gN 3 (ws.length + 1) (fun j => .int .i64 (N j)) ∧ Aside (∀ j, r ≤ j → j < ws.length → Dp wd ws C N j) ∧ Below w.heap.size w wr) (fun i _ => (intOf i + 1).toNat)
    case atStart => exact ⟨ws.length, fun _ => 0, fun _ => 0, Nat.le_refl _, rfl, RC, RN, (show ∀ j, ws.length ≤ j → j < ws.length → Dp wd ws _ _ j from fun j h1 h2 => by omega), KW⟩
    case round =>
      clear RC RN KW
      obtain ⟨r, C, N, hr', hi10, RC, RN, HD, KW⟩ := hrel
      rcases r with _ | t
      · have e0 : (((0 : Nat) : Int) - 1) = -1 := by omega
        rw [e0] at hi10
        subst hi10
        clear e0 hr'
        have hr1 := hr.later KW
        go_wp2_with fail
        have hzC : gC < wr.heap.size := RC.lt
        have hzN : gN < wr.heap.size := RN.lt
        have hzw : w.heap.size ≤ wr.heap.size := KW.size
        obtain ⟨wo, rfl⟩ : ∃ wo : World, wo = wr := ⟨_, rfl⟩
        go_loopw [14, 15] (fun o i wr => ∃ (m : Nat) (L : List (List Int)), m ≤ ws.length ∧ i = .int .i64 m ∧ Aside (L.flatten = ws.take m ∧ Fit wd L ∧ (m < ws.length → ssq wd L + C m = C 0) ∧ (0 < ws.length → m = ws.length → pcost wd L = C 0)) ∧ wr.ownsRow wo.heap.size 3 1 o L.length ((sts 0 L).map fun (x : Nat) => .int .i64 (x : Int)) ∧ wr.rowIs gN 3 (ws.length + 1) (fun j => .int .i64 (N j)) ∧ wo.heap.size ≤ wr.heap.size ∧ Below w.heap.size w wr) (fun _ i _ => ws.length - (intOf i).toNat)
        case atStart => exact ⟨0, [], Nat.zero_le _, rfl, (⟨rfl, fun l h => by simp at h, fun _ => by simp [ssq], fun h1 h2 => by omega⟩ : _ ∧ _ ∧ _ ∧ _), World.ownsRow_nil _ _ _ _, RN, Nat.le_refl _, KW⟩
        case round =>
          clear RN KW hr1
          obtain ⟨m, L, hm, rfl, HL, hown, RN, hz, KW⟩ := hrel
          have hLl : L.length ≤ m := by
            have := fit_len wd L HL.out.2.1
            rw [HL.out.1] at this; simp at this; omega
          by_cases hlt : m < ws.length
          · obtain ⟨⟨k, hNk, hmk, hkn, hlf, hCm⟩, _, _, _⟩ := HD.out m (by omega) hlt
            have hcn := RN.cell (i := m) (by omega)
            rw [hNk] at hcn
            have hsl := seg_len ws m k (by omega) hkn
            have HL2 := Lib.hid (show (L ++ [seg ws m k]).flatten = ws.take k ∧ Fit wd (L ++ [seg ws m k]) ∧ (k < ws.length → ssq wd (L ++ [seg ws m k]) + C k = C 0) ∧ (0 < ws.length → k = ws.length → pcost wd (L ++ [seg ws m k]) = C 0) by
              obtain ⟨q1, q2, q3, q4⟩ := HL.out
              refine ⟨?_, ?_, ?_, ?_⟩
              · rw [List.flatten_append, q1]
                have e := take_seg ws m k (by omega) hkn
                have e2 := (List.take_append_drop m ws)
                rw [e] at e2
                have : ws.take k = (ws.take m ++ seg ws m k ++ ws.drop k).take k := by rw [List.append_assoc, e2]
                rw [this, List.take_left' (by simp [hsl]; omega)]
                simp
              · intro l hl
                rcases List.mem_append.1 hl with h | h
                · exact q2 l h
                · simp at h; subst h
                  exact ⟨by intro e; rw [e] at hsl; simp at hsl; omega, hlf⟩
              · intro hk
                rw [ssq_snoc, ← q3 hlt, hCm]
                unfold stp
                rw [if_pos hk]; omega
              · intro _ hk
                have : C m = 0 := by rw [hCm]; unfold stp; rw [if_neg (by omega)]
                rw [pcost_append wd L (seg ws m k) [], ← q3 hlt, this]
                simp [pcost])
            have HST := Lib.hid (show (sts 0 (L ++ [seg ws m k])).map (fun (x : Nat) => Value.int .i64 (x : Int)) = (sts 0 L).map (fun (x : Nat) => Value.int .i64 (x : Int)) ++ [.int .i64 (m : Int)] by
              rw [sts_append, List.map_append, HL.out.1]
              simp [sts]; omega)
            clear hlf hCm hNk hsl HL
            go_wp2_with (at_builtin; refine wpList_app1 rfl (.tmp 98) (.tmp 100) _ rfl wo.heap.size 3 _ 8 Try.underlying22 int_info rfl _ _ _ rfl hown (.int .i64 (m : Int)) rfl rfl rfl (by omega) (by omega) hz ?_)
            intro v' w' hown' hbel' _
            have hb' := hbel' wo.heap.size (Nat.le_refl _) wr (Below.refl _ _)
            have KW' := hbel' w.heap.size hzw w KW
            have RN' := rowIs_below RN hb' hzN
            have hcn' := RN'.cell (i := m) (by omega)
            have hcn2 := RN.cell (i := m) (by omega)
            rw [hcn] at hcn2
            rw [← Option.some.inj hcn2] at hcn'
            have hz' := Nat.le_trans hz hb'.size
            clear hbel' hb' hown RN KW hcn hcn2 hz
            go_wp2_with fail
            go_roundw
            case rel => exact ⟨k, L ++ [seg ws m k], hkn, rfl, HL2.out, by rw [HST.out]; simpa using hown', RN', hz', KW'⟩
            case measure => simp [intOf]; omega
          · obtain rfl : m = ws.length := by omega
            obtain ⟨q1, q2, q3, q4⟩ := HL.out
            rw [List.take_length] at q1
            have hopt : ∀ ls', ls'.flatten = ws → Fit wd ls' → pcost wd L ≤ pcost wd ls' := by
              intro ls' e1 e2
              rcases Nat.eq_zero_or_pos ws.length with h0 | h0
              · have hL0 : L = [] := by
                  have := fit_len wd L q2
                  rw [q1] at this; exact List.length_eq_zero_iff.1 (by omega)
                rw [hL0]; exact pcost_nonneg wd ls'
              · rw [q4 h0 rfl]
                exact dp_least wd ws C N (fun n hn => (hb n hn).1) (fun j hj => HD.out j (by omega) hj) ls' 0 h0 (by simpa using e1) e2
            have hfin := Lib.hid (show L.flatten = ws ∧ Fit wd L ∧ _ from ⟨q1, q2, hopt⟩)
            have hrow : Row .i64 wr u14 ((sts 0 L).map fun (x : Nat) => (x : Int)) := row_of_own (by rw [List.length_map, sts_len, List.map_map]; exact hown) (fun x hx => by
              obtain ⟨y, hy, rfl⟩ := List.mem_map.1 hx
              obtain ⟨i, hi, rfl⟩ := List.mem_iff_getElem.1 hy
              have h1 := sts_at L 0 i (by rwa [sts_len] at hi)
              rw [List.getElem?_eq_getElem hi] at h1
              have h2 := off_le L i
              rw [q1] at h2
              have h3 := Option.some.inj h1
              exact wfi _ (by omega))
            clear q1 q2 q3 q4 hopt HL hown
            go_wp2_with fail
            go_ret2
            exact ⟨_, L, rfl, hrow, hfin.out.1, hfin.out.2.1, hfin.out.2.2, KW⟩
      · have e1 : (((t + 1 : Nat) : Int) - 1) = (t : Int) := by omega
        rw [e1] at hi10
        subst hi10
        have ct := RC.cell (i := t) (by omega)
        have ft := RC.frozen t
        have RC1 := RC.set t (.int .i64 (-1))
        have RN1 := RN.setOther (a := ⟨gC, t, none⟩) (Ne.symm hne) (.int .i64 (-1))
        have KW1 := KW.setCell (p := ⟨gC, t, none⟩) hgC (.int .i64 (-1))
        have h0t : (0 : Int) ≤ (t : Int) := by omega
        have htn : t < ws.length := by omega
        have RC2 := RC1.congr (g := fun j => .int .i64 (upd C t (-1) j)) (fun j hj => by show (if j = t then _ else _) = _; unfold upd; split <;> rfl)
        have HD2 : Aside (∀ j, t < j → j < ws.length → Dp wd ws (upd C t (-1)) N j) := fun j h1 h2 => by
          have := dp_upd wd ws C N t (-1) (N t) j h1 (HD.out j h1 h2)
          rwa [show upd N t (N t) = N by funext k; unfold upd; split; rename_i e; rw [e]; rfl] at this
        have HI2 : Aside (Inn wd ws (upd C t (-1)) N t t) := .inl ⟨rfl, upd_at _ _ _⟩
        have HF0 := Lib.hid (show wd + 1 = lf wd (seg ws t t) by rw [seg_self, lf_nil])
        go_wp2_with fail
        clear ct ft RC1 RC RN KW HD
        generalize upd C t (-1) = C2 at *
        generalize wr.setCell ⟨gC, t, none⟩ (.int .i64 (-1)) = W4 at *
        obtain ⟨wo, rfl⟩ : ∃ wo : World, wo = wr := ⟨_, rfl⟩
        go_loopw [11, 12] (fun f k wr => ∃ (k' : Nat) (C N : Nat → Int), t ≤ k' ∧ k' ≤ ws.length ∧ k = .int .i64 k' ∧ f = .int .i64 (lf wd (seg ws t k')) ∧ wr.rowIs gC 3 (ws.length + 1) (fun j => .int .i64 (C j)) ∧ wr.rowIs gN 3 (ws.length + 1) (fun j => .int .i64 (N j)) ∧ Aside (∀ j, t < j → j < ws.length → Dp wd ws C N j) ∧ Aside (Inn wd ws C N t k') ∧ 0 ≤ lf wd (seg ws t k') ∧ Below w.heap.size w wr) (fun _ k _ => ws.length - (intOf k).toNat)
        case atStart => exact ⟨t, C2, N, Nat.le_refl _, by omega, rfl, by rw [HF0.out], RC2, RN1, HD2, HI2, by rw [← HF0.out]; omega, KW1⟩
        case round =>
          clear RC2 RN1 KW1 HD2 HI2 HF0 C2
          obtain ⟨k, C, N, htk, hkn, rfl, rfl, RC, RN, HD, HI, hlf0, KW⟩ := hrel
          by_cases hlt : k < ws.length
          · obtain ⟨b0, o0, hA, hb0, hcell⟩ := Row.at_ (show Reads wr wr.heap.size 1 A ws.length (ws.map (.int .i64)) by obtain ⟨A', c', hv, _, _, _, hh⟩ := hr.later KW; cases hv; exact hh) hlt
            subst hA
            have eg : ws.getD k 0 = ws[k] := by simp [List.getD, hlt]
            rw [eg] at hcell
            have hx := hb ws[k] (List.getElem_mem hlt)
            have hle := lf_le wd (seg ws t k) (fun n hn => (hb n (seg_mem ws t k n hn)).1)
            have hs := lf_snoc wd (seg ws t k) ws[k]
            rw [← seg_succ ws t k htk hlt] at hs
            have ht0 : lf wd (seg ws t t) = wd + 1 := by rw [seg_self, lf_nil]
            have hkt : k = t → 0 ≤ lf wd (seg ws t (k + 1)) := by intro e; subst e; rw [hs, ht0]; omega
            have hp1 : ∀ n ∈ ws, 1 ≤ n := fun n hn => (hb n hn).1
            by_cases hf' : lf wd (seg ws t (k + 1)) < 0
            · have htk2 : t < k := by omega
              have HDP := Lib.hid (inn_dp wd ws C N t k hp1 HI.out htk2 (by omega) (.inr ⟨hlt, hf'⟩))
              rw [hs] at hf'
              clear hs ht0 hkt eg hp1
              generalize lf wd (seg ws t k) = f at *
              generalize ws[k] = x at *
              go_wp2_with fail
              go_roundw
              case rel => exact ⟨t, C, N, by omega, rfl, RC, RN, (show ∀ j, t ≤ j → j < ws.length → Dp wd ws C N j from fun j h1 h2 => by
                rcases Nat.eq_or_lt_of_le h1 with e | h
                · subst e; exact HDP.out
                · exact HD.out j h h2), KW⟩
              case measure => simp [intOf]
            · have hf2 : 0 ≤ lf wd (seg ws t (k + 1)) := by omega
              have hSB := stp_bd wd ws C N t (k + 1) h2 hp1 (by omega) (by omega) hf2 HD.out
              have HT := fun hc => Lib.hid (inn_take wd ws C N t k h2 hp1 HI.out htk hlt hf2 HD.out hc)
              have HK := fun h1 h2 => Lib.hid (inn_keep wd ws C N t k HI.out h1 h2)
              have hst : stp wd ws C t (k + 1) = if k + 1 < ws.length then lf wd (seg ws t (k + 1)) * lf wd (seg ws t (k + 1)) + C (k + 1) else 0 := rfl
              have hq : 0 ≤ lf wd (seg ws t (k + 1)) * lf wd (seg ws t (k + 1)) ∧ lf wd (seg ws t (k + 1)) * lf wd (seg ws t (k + 1)) ≤ 61 * 61 := by
                have hl2 := lf_le wd (seg ws t (k + 1)) (fun n hn => (hb n (seg_mem ws t (k + 1) n hn)).1)
                exact ⟨Int.mul_nonneg hf2 hf2, Int.mul_le_mul (by omega) (by omega) hf2 (by omega)⟩
              generalize hS : stp wd ws C t (k + 1) = S at *
              have HSS := Lib.hid hS
              have HS := Lib.hid hs
              rw [hs] at hst hq hf2 hf'
              have hct := RC.cell (i := t) (by omega)
              have hft := RC.frozen t
              have hnt := RN.cell (i := t) (by omega)
              have hgt := RN.frozen t
              have hCt : -1 ≤ C t ∧ C t ≤ 1000000 := by
                rcases HI.out with ⟨_, h⟩ | ⟨_, _, _, h3, h4⟩
                · omega
                · omega
              clear hS hs ht0 hkt eg hp1
              generalize lf wd (seg ws t k) = f at *
              generalize ws[k] = x at *
              have h0k : (0 : Int) ≤ (k : Int) + 1 := by omega
              by_cases hk1 : k + 1 < ws.length
              · rw [if_pos hk1] at hst
                have hck := RC.cell (i := k + 1) (by omega)
                have hDk := HD.out (k + 1) (by omega) hk1
                have hd3 := hDk.lo
                have hd4 := hDk.hi
                clear hDk
                have hk1' : (k : Int) + 1 < (ws.length : Int) := by omega
                generalize hc1 : C (k + 1) = c1 at *
                clear hc1
                subst hst
                have HCT : Hid (C t = C t) := rfl
                generalize hctv : C t = ctv at *
                have HCTV := Lib.hid hctv
                clear hctv HCT
                by_cases hneg : ctv < 0
                · have HI2 := HT (.inl hneg)
                  have hdn : decide (ctv < 0) = true := by simp; omega
                  clear HT HK
                  go_wp2_with fail
                  go_roundw
                  case rel => exact ⟨k + 1, upd C t _, upd N t _, by omega, by omega, by go_num, by rw [HS.out], (rows_take RC RN hne t _ _).1, (rows_take RC RN hne t _ _).2, (show ∀ j, t < j → j < ws.length → Dp wd ws _ _ j from fun j h1 h2 => dp_upd wd ws C N t _ _ j h1 (HD.out j h1 h2)), HI2.out, by rw [HS.out]; exact hf2, (KW.setCell (p := ⟨gC, t, none⟩) hgC _).setCell (p := ⟨gN, t, none⟩) hgN _⟩
                  case measure => simp [intOf]; omega
                · have hdn : decide (ctv < 0) = false := by simp; omega
                  by_cases hless : stp wd ws C t (k + 1) < C t
                  · have HI2 := HT (.inr (by rw [HSS.out, HCTV.out] at hless; exact hless))
                    rw [HSS.out, HCTV.out] at hless
                    clear HT HK
                    go_wp2_with fail
                    go_roundw
                    case rel => exact ⟨k + 1, upd C t _, upd N t _, by omega, by omega, by go_num, by rw [HS.out], (rows_take RC RN hne t _ _).1, (rows_take RC RN hne t _ _).2, (show ∀ j, t < j → j < ws.length → Dp wd ws _ _ j from fun j h1 h2 => dp_upd wd ws C N t _ _ j h1 (HD.out j h1 h2)), HI2.out, by rw [HS.out]; exact hf2, (KW.setCell (p := ⟨gC, t, none⟩) hgC _).setCell (p := ⟨gN, t, none⟩) hgN _⟩
                    case measure => simp [intOf]; omega
                  · rw [HSS.out, HCTV.out] at hless
                    have HI2 := HK hneg hless
                    clear HT HK
                    go_wp2_with fail
                    go_roundw
                    case rel => exact ⟨k + 1, C, N, by omega, by omega, by go_num, by rw [HS.out], RC, RN, HD, HI2.out, by rw [HS.out]; exact hf2, KW⟩
                    case measure => simp [intOf]; omega
              · rw [if_neg hk1] at hst
                have hk1' : ¬ ((k : Int) + 1 < (ws.length : Int)) := by omega
                have hk1d : decide ((k : Int) + 1 < (ws.length : Int)) = false := by simp; omega
                subst hst
                have HCT : Hid (C t = C t) := rfl
                generalize hctv : C t = ctv at *
                have HCTV := Lib.hid hctv
                clear hctv HCT
                by_cases hneg : ctv < 0
                · have HI2 := HT (.inl hneg)
                  have hdn : decide (ctv < 0) = true := by simp; omega
                  clear HT HK
                  go_wp2_with fail
                  go_roundw
                  case rel => exact ⟨k + 1, upd C t _, upd N t _, by omega, by omega, by go_num, by rw [HS.out], (rows_take RC RN hne t _ _).1, (rows_take RC RN hne t _ _).2, (show ∀ j, t < j → j < ws.length → Dp wd ws _ _ j from fun j h1 h2 => dp_upd wd ws C N t _ _ j h1 (HD.out j h1 h2)), HI2.out, by rw [HS.out]; exact hf2, (KW.setCell (p := ⟨gC, t, none⟩) hgC _).setCell (p := ⟨gN, t, none⟩) hgN _⟩
                  case measure => simp [intOf]; omega
                · have hdn : decide (ctv < 0) = false := by simp; omega
                  by_cases hless : stp wd ws C t (k + 1) < C t
                  · have HI2 := HT (.inr (by rw [HSS.out, HCTV.out] at hless; exact hless))
                    rw [HSS.out, HCTV.out] at hless
                    clear HT HK
                    go_wp2_with fail
                    go_roundw
                    case rel => exact ⟨k + 1, upd C t _, upd N t _, by omega, by omega, by go_num, by rw [HS.out], (rows_take RC RN hne t _ _).1, (rows_take RC RN hne t _ _).2, (show ∀ j, t < j → j < ws.length → Dp wd ws _ _ j from fun j h1 h2 => dp_upd wd ws C N t _ _ j h1 (HD.out j h1 h2)), HI2.out, by rw [HS.out]; exact hf2, (KW.setCell (p := ⟨gC, t, none⟩) hgC _).setCell (p := ⟨gN, t, none⟩) hgN _⟩
                    case measure => simp [intOf]; omega
                  · rw [HSS.out, HCTV.out] at hless
                    have HI2 := HK hneg hless
                    clear HT HK
                    go_wp2_with fail
                    go_roundw
                    case rel => exact ⟨k + 1, C, N, by omega, by omega, by go_num, by rw [HS.out], RC, RN, HD, HI2.out, by rw [HS.out]; exact hf2, KW⟩
                    case measure => simp [intOf]; omega
          · obtain rfl : k = ws.length := by omega
            have HDP := Lib.hid (inn_dp wd ws C N t ws.length (fun n hn => (hb n hn).1) HI.out htn (Nat.le_refl _) (.inl rfl))
            generalize lf wd (seg ws t ws.length) = f at *
            go_wp2_with fail
            go_roundw
            case rel => exact ⟨t, C, N, by omega, rfl, RC, RN, (show ∀ j, t ≤ j → j < ws.length → Dp wd ws C N j from fun j h1 h2 => by
              rcases Nat.eq_or_lt_of_le h1 with e | h
              · subst e; exact HDP.out
              · exact HD.out j h h2), KW⟩
            case measure => simp [intOf]
  · generalize w1.heap.size + 1 = gC at *
    generalize w1.heap.size = gN at *
    have RC := R2
    have RN := R1
    have hne : gC ≠ gN := hz4
    have hgC := hz2
    have hgN := hz1
    clear R1 R2 hz1 hz2 hz3 hz4
    go_loopw [10] (fun i wr => ∃ (r : Nat) (C N : Nat → Int), r ≤ ws.length ∧ i = .int .i64 ((r : Int) - 1) ∧ wr.rowIs gC 3 (ws.length + 1) (fun j => .int .i64 (C j)) ∧ wr.rowIs gN 3 (ws.length + 1) (fun j => .int .i64 (N j)) ∧ Aside (∀ j, r ≤ j → j < ws.length → Dp wd ws C N j) ∧ Below w.heap.size w wr) (fun i _ => (intOf i + 1).toNat)
    case atStart => exact ⟨ws.length, fun _ => 0, fun _ => 0, Nat.le_refl _, rfl, RC, RN, (show ∀ j, ws.length ≤ j → j < ws.length → Dp wd ws _ _ j from fun j h1 h2 => by omega), KW⟩
    case round =>
      clear RC RN KW
      obtain ⟨r, C, N, hr', hi10, RC, RN, HD, KW⟩ := hrel
      rcases r with _ | t
      · have e0 : (((0 : Nat) : Int) - 1) = -1 := by omega
        rw [e0] at hi10
        subst hi10
        clear e0 hr'
        have hr1 := hr.later KW
        go_wp2_with fail
        have hzC : gC < wr.heap.size := RC.lt
        have hzN : gN < wr.heap.size := RN.lt
        have hzw : w.heap.size ≤ wr.heap.size := KW.size
        obtain ⟨wo, rfl⟩ : ∃ wo : World, wo = wr := ⟨_, rfl⟩
        go_loopw [14, 15] (fun o i wr => ∃ (m : Nat) (L : List (List Int)), m ≤ ws.length ∧ i = .int .i64 m ∧ Aside (L.flatten = ws.take m ∧ Fit wd L ∧ (m < ws.length → ssq wd L + C m = C 0) ∧ (0 < ws.length → m = ws.length → pcost wd L = C 0)) ∧ wr.ownsRow wo.heap.size 3 1 o L.length ((sts 0 L).map fun (x : Nat) => .int .i64 (x : Int)) ∧ wr.rowIs gN 3 (ws.length + 1) (fun j => .int .i64 (N j)) ∧ wo.heap.size ≤ wr.heap.size ∧ Below w.heap.size w wr) (fun _ i _ => ws.length - (intOf i).toNat)
        case atStart => exact ⟨0, [], Nat.zero_le _, rfl, (⟨rfl, fun l h => by simp at h, fun _ => by simp [ssq], fun h1 h2 => by omega⟩ : _ ∧ _ ∧ _ ∧ _), World.ownsRow_nil _ _ _ _, RN, Nat.le_refl _, KW⟩
        case round =>
          clear RN KW hr1
          obtain ⟨m, L, hm, rfl, HL, hown, RN, hz, KW⟩ := hrel
          have hLl : L.length ≤ m := by
            have := fit_len wd L HL.out.2.1
            rw [HL.out.1] at this; simp at this; omega
          by_cases hlt : m < ws.length
          · obtain ⟨⟨k, hNk, hmk, hkn, hlf, hCm⟩, _, _, _⟩ := HD.out m (by omega) hlt
            have hcn := RN.cell (i := m) (by omega)
            rw [hNk] at hcn
            have hsl := seg_len ws m k (by omega) hkn
            have HL2 := Lib.hid (show (L ++ [seg ws m k]).flatten = ws.take k ∧ Fit wd (L ++ [seg ws m k]) ∧ (k < ws.length → ssq wd (L ++ [seg ws m k]) + C k = C 0) ∧ (0 < ws.length → k = ws.length → pcost wd (L ++ [seg ws m k]) = C 0) by
              obtain ⟨q1, q2, q3, q4⟩ := HL.out
              refine ⟨?_, ?_, ?_, ?_⟩
              · rw [List.flatten_append, q1]
                have e := take_seg ws m k (by omega) hkn
                have e2 := (List.take_append_drop m ws)
                rw [e] at e2
                have : ws.take k = (ws.take m ++ seg ws m k ++ ws.drop k).take k := by rw [List.append_assoc, e2]
                rw [this, List.take_left' (by simp [hsl]; omega)]
                simp
              · intro l hl
                rcases List.mem_append.1 hl with h | h
                · exact q2 l h
                · simp at h; subst h
                  exact ⟨by intro e; rw [e] at hsl; simp at hsl; omega, hlf⟩
              · intro hk
                rw [ssq_snoc, ← q3 hlt, hCm]
                unfold stp
                rw [if_pos hk]; omega
              · intro _ hk
                have : C m = 0 := by rw [hCm]; unfold stp; rw [if_neg (by omega)]
                rw [pcost_append wd L (seg ws m k) [], ← q3 hlt, this]
                simp [pcost])
            have HST := Lib.hid (show (sts 0 (L ++ [seg ws m k])).map (fun (x : Nat) => Value.int .i64 (x : Int)) = (sts 0 L).map (fun (x : Nat) => Value.int .i64 (x : Int)) ++ [.int .i64 (m : Int)] by
              rw [sts_append, List.map_append, HL.out.1]
              simp [sts]; omega)
            clear hlf hCm hNk hsl HL
            go_wp2_with (at_builtin; refine wpList_app1 rfl (.tmp 98) (.tmp 100) _ rfl wo.heap.size 3 _ 8 Try.underlying22 int_info rfl _ _ _ rfl hown (.int .i64 (m : Int)) rfl rfl rfl (by omega) (by omega) hz ?_)
            intro v' w' hown' hbel' _
            have hb' := hbel' wo.heap.size (Nat.le_refl _) wr (Below.refl _ _)
            have KW' := hbel' w.heap.size hzw w KW
            have RN' := rowIs_below RN hb' hzN
            have hcn' := RN'.cell (i := m) (by omega)
            have hcn2 := RN.cell (i := m) (by omega)
            rw [hcn] at hcn2
            rw [← Option.some.inj hcn2] at hcn'
            have hz' := Nat.le_trans hz hb'.size
            clear hbel' hb' hown RN KW hcn hcn2 hz
            go_wp2_with fail
            go_roundw
            case rel => exact ⟨k, L ++ [seg ws m k], hkn, rfl, HL2.out, by rw [HST.out]; simpa using hown', RN', hz', KW'⟩
            case measure => simp [intOf]; omega
          · obtain rfl : m = ws.length := by omega
            obtain ⟨q1, q2, q3, q4⟩ := HL.out
            rw [List.take_length] at q1
            have hopt : ∀ ls', ls'.flatten = ws → Fit wd ls' → pcost wd L ≤ pcost wd ls' := by
              intro ls' e1 e2
              rcases Nat.eq_zero_or_pos ws.length with h0 | h0
              · have hL0 : L = [] := by
                  have := fit_len wd L q2
                  rw [q1] at this; exact List.length_eq_zero_iff.1 (by omega)
                rw [hL0]; exact pcost_nonneg wd ls'
              · rw [q4 h0 rfl]
                exact dp_least wd ws C N (fun n hn => (hb n hn).1) (fun j hj => HD.out j (by omega) hj) ls' 0 h0 (by simpa using e1) e2
            have hfin := Lib.hid (show L.flatten = ws ∧ Fit wd L ∧ _ from ⟨q1, q2, hopt⟩)
            have hrow : Row .i64 wr u14 ((sts 0 L).map fun (x : Nat) => (x : Int)) := row_of_own (by rw [List.length_map, sts_len, List.map_map]; exact hown) (fun x hx => by
              obtain ⟨y, hy, rfl⟩ := List.mem_map.1 hx
              obtain ⟨i, hi, rfl⟩ := List.mem_iff_getElem.1 hy
              have h1 := sts_at L 0 i (by rwa [sts_len] at hi)
              rw [List.getElem?_eq_getElem hi] at h1
              have h2 := off_le L i
              rw [q1] at h2
              have h3 := Option.some.inj h1
              exact wfi _ (by omega))
            clear q1 q2 q3 q4 hopt HL hown
            go_wp2_with fail
            go_ret2
            exact ⟨_, L, rfl, hrow, hfin.out.1, hfin.out.2.1, hfin.out.2.2, KW⟩
      · have e1 : (((t + 1 : Nat) : Int) - 1) = (t : Int) := by omega
        rw [e1] at hi10
        subst hi10
        have ct := RC.cell (i := t) (by omega)
        have ft := RC.frozen t
        have RC1 := RC.set t (.int .i64 (-1))
        have RN1 := RN.setOther (a := ⟨gC, t, none⟩) (Ne.symm hne) (.int .i64 (-1))
        have KW1 := KW.setCell (p := ⟨gC, t, none⟩) hgC (.int .i64 (-1))
        have h0t : (0 : Int) ≤ (t : Int) := by omega
        have htn : t < ws.length := by omega
        have RC2 := RC1.congr (g := fun j => .int .i64 (upd C t (-1) j)) (fun j hj => by show (if j = t then _ else _) = _; unfold upd; split <;> rfl)
        have HD2 : Aside (∀ j, t < j → j < ws.length → Dp wd ws (upd C t (-1)) N j) := fun j h1 h2 => by
          have := dp_upd wd ws C N t (-1) (N t) j h1 (HD.out j h1 h2)
          rwa [show upd N t (N t) = N by funext k; unfold upd; split; rename_i e; rw [e]; rfl] at this
        have HI2 : Aside (Inn wd ws (upd C t (-1)) N t t) := .inl ⟨rfl, upd_at _ _ _⟩
        have HF0 := Lib.hid (show wd + 1 = lf wd (seg ws t t) by rw [seg_self, lf_nil])
        go_wp2_with fail
        clear ct ft RC1 RC RN KW HD
        generalize upd C t (-1) = C2 at *
        generalize wr.setCell ⟨gC, t, none⟩ (.int .i64 (-1)) = W4 at *
        obtain ⟨wo, rfl⟩ : ∃ wo : World, wo = wr := ⟨_, rfl⟩
        go_loopw [11, 12] (fun f k wr => ∃ (k' : Nat) (C N : Nat → Int), t ≤ k' ∧ k' ≤ ws.length ∧ k = .int .i64 k' ∧ f = .int .i64 (lf wd (seg ws t k')) ∧ wr.rowIs gC 3 (ws.length + 1) (fun j => .int .i64 (C j)) ∧ wr.rowIs gN 3 (ws.length + 1) (fun j => .int .i64 (N j)) ∧ Aside (∀ j, t < j → j < ws.length → Dp wd ws C N j) ∧ Aside (Inn wd ws C N t k') ∧ 0 ≤ lf wd (seg ws t k') ∧ Below w.heap.size w wr) (fun _ k _ => ws.length - (intOf k).toNat)
        case atStart => exact ⟨t, C2, N, Nat.le_refl _, by omega, rfl, by rw [HF0.out], RC2, RN1, HD2, HI2, by rw [← HF0.out]; omega, KW1⟩
        case round =>
          clear RC2 RN1 KW1 HD2 HI2 HF0 C2
          obtain ⟨k, C, N, htk, hkn, rfl, rfl, RC, RN, HD, HI, hlf0, KW⟩ := hrel
          by_cases hlt : k < ws.length
          · obtain ⟨b0, o0, hA, hb0, hcell⟩ := Row.at_ (show Reads wr wr.heap.size 1 A ws.length (ws.map (.int .i64)) by obtain ⟨A', c', hv, _, _, _, hh⟩ := hr.later KW; cases hv; exact hh) hlt
            subst hA
            have eg : ws.getD k 0 = ws[k] := by simp [List.getD, hlt]
            rw [eg] at hcell
            have hx := hb ws[k] (List.getElem_mem hlt)
            have hle := lf_le wd (seg ws t k) (fun n hn => (hb n (seg_mem ws t k n hn)).1)
            have hs := lf_snoc wd (seg ws t k) ws[k]
            rw [← seg_succ ws t k htk hlt] at hs
            have ht0 : lf wd (seg ws t t) = wd + 1 := by rw [seg_self, lf_nil]
            have hkt : k = t → 0 ≤ lf wd (seg ws t (k + 1)) := by intro e; subst e; rw [hs, ht0]; omega
            have hp1 : ∀ n ∈ ws, 1 ≤ n := fun n hn => (hb n hn).1
            by_cases hf' : lf wd (seg ws t (k + 1)) < 0
            · have htk2 : t < k := by omega
              have HDP := Lib.hid (inn_dp wd ws C N t k hp1 HI.out htk2 (by omega) (.inr ⟨hlt, hf'⟩))
              rw [hs] at hf'
              clear hs ht0 hkt eg hp1
              generalize lf wd (seg ws t k) = f at *
              generalize ws[k] = x at *
              go_wp2_with fail
              go_roundw
              case rel => exact ⟨t, C, N, by omega, rfl, RC, RN, (show ∀ j, t ≤ j → j < ws.length → Dp wd ws C N j from fun j h1 h2 => by
                rcases Nat.eq_or_lt_of_le h1 with e | h
                · subst e; exact HDP.out
                · exact HD.out j h h2), KW⟩
              case measure => simp [intOf]
            · have hf2 : 0 ≤ lf wd (seg ws t (k + 1)) := by omega
              have hSB := stp_bd wd ws C N t (k + 1) h2 hp1 (by omega) (by omega) hf2 HD.out
              have HT := fun hc => Lib.hid (inn_take wd ws C N t k h2 hp1 HI.out htk hlt hf2 HD.out hc)
              have HK := fun h1 h2 => Lib.hid (inn_keep wd ws C N t k HI.out h1 h2)
              have hst : stp wd ws C t (k + 1) = if k + 1 < ws.length then lf wd (seg ws t (k + 1)) * lf wd (seg ws t (k + 1)) + C (k + 1) else 0 := rfl
              have hq : 0 ≤ lf wd (seg ws t (k + 1)) * lf wd (seg ws t (k + 1)) ∧ lf wd (seg ws t (k + 1)) * lf wd (seg ws t (k + 1)) ≤ 61 * 61 := by
                have hl2 := lf_le wd (seg ws t (k + 1)) (fun n hn => (hb n (seg_mem ws t (k + 1) n hn)).1)
                exact ⟨Int.mul_nonneg hf2 hf2, Int.mul_le_mul (by omega) (by omega) hf2 (by omega)⟩
              generalize hS : stp wd ws C t (k + 1) = S at *
              have HSS := Lib.hid hS
              have HS := Lib.hid hs
              rw [hs] at hst hq hf2 hf'
              have hct := RC.cell (i := t) (by omega)
              have hft := RC.frozen t
              have hnt := RN.cell (i := t) (by omega)
              have hgt := RN.frozen t
              have hCt : -1 ≤ C t ∧ C t ≤ 1000000 := by
                rcases HI.out with ⟨_, h⟩ | ⟨_, _, _, h3, h4⟩
                · omega
                · omega
              clear hS hs ht0 hkt eg hp1
              generalize lf wd (seg ws t k) = f at *
              generalize ws[k] = x at *
              have h0k : (0 : Int) ≤ (k : Int) + 1 := by omega
              by_cases hk1 : k + 1 < ws.length
              · rw [if_pos hk1] at hst
                have hck := RC.cell (i := k + 1) (by omega)
                have hDk := HD.out (k + 1) (by omega) hk1
                have hd3 := hDk.lo
                have hd4 := hDk.hi
                clear hDk
                have hk1' : (k : Int) + 1 < (ws.length : Int) := by omega
                generalize hc1 : C (k + 1) = c1 at *
                clear hc1
                subst hst
                have HCT : Hid (C t = C t) := rfl
                generalize hctv : C t = ctv at *
                have HCTV := Lib.hid hctv
                clear hctv HCT
                by_cases hneg : ctv < 0
                · have HI2 := HT (.inl hneg)
                  have hdn : decide (ctv < 0) = true := by simp; omega
                  clear HT HK
                  go_wp2_with fail
                  go_roundw
                  case rel => exact ⟨k + 1, upd C t _, upd N t _, by omega, by omega, by go_num, by rw [HS.out], (rows_take RC RN hne t _ _).1, (rows_take RC RN hne t _ _).2, (show ∀ j, t < j → j < ws.length → Dp wd ws _ _ j from fun j h1 h2 => dp_upd wd ws C N t _ _ j h1 (HD.out j h1 h2)), HI2.out, by rw [HS.out]; exact hf2, (KW.setCell (p := ⟨gC, t, none⟩) hgC _).setCell (p := ⟨gN, t, none⟩) hgN _⟩
                  case measure => simp [intOf]; omega
                · have hdn : decide (ctv < 0) = false := by simp; omega
                  by_cases hless : stp wd ws C t (k + 1) < C t
                  · have HI2 := HT (.inr (by rw [HSS.out, HCTV.out] at hless; exact hless))
                    rw [HSS.out, HCTV.out] at hless
                    clear HT HK
                    go_wp2_with fail
                    go_roundw
                    case rel => exact ⟨k + 1, upd C t _, upd N t _, by omega, by omega, by go_num, by rw [HS.out], (rows_take RC RN hne t _ _).1, (rows_take RC RN hne t _ _).2, (show ∀ j, t < j → j < ws.length → Dp wd ws _ _ j from fun j h1 h2 => dp_upd wd ws C N t _ _ j h1 (HD.out j h1 h2)), HI2.out, by rw [HS.out]; exact hf2, (KW.setCell (p := ⟨gC, t, none⟩) hgC _).setCell (p := ⟨gN, t, none⟩) hgN _⟩
                    case measure => simp [intOf]; omega
                  · rw [HSS.out, HCTV.out] at hless
                    have HI2 := HK hneg hless
                    clear HT HK
                    go_wp2_with fail
                    go_roundw
                    case rel => exact ⟨k + 1, C, N, by omega, by omega, by go_num, by rw [HS.out], RC, RN, HD, HI2.out, by rw [HS.out]; exact hf2, KW⟩
                    case measure => simp [intOf]; omega
              · rw [if_neg hk1] at hst
                have hk1' : ¬ ((k : Int) + 1 < (ws.length : Int)) := by omega
                have hk1d : decide ((k : Int) + 1 < (ws.length : Int)) = false := by simp; omega
                subst hst
                have HCT : Hid (C t = C t) := rfl
                generalize hctv : C t = ctv at *
                have HCTV := Lib.hid hctv
                clear hctv HCT
                by_cases hneg : ctv < 0
                · have HI2 := HT (.inl hneg)
                  have hdn : decide (ctv < 0) = true := by simp; omega
                  clear HT HK
                  go_wp2_with fail
                  go_roundw
                  case rel => exact ⟨k + 1, upd C t _, upd N t _, by omega, by omega, by go_num, by rw [HS.out], (rows_take RC RN hne t _ _).1, (rows_take RC RN hne t _ _).2, (show ∀ j, t < j → j < ws.length → Dp wd ws _ _ j from fun j h1 h2 => dp_upd wd ws C N t _ _ j h1 (HD.out j h1 h2)), HI2.out, by rw [HS.out]; exact hf2, (KW.setCell (p := ⟨gC, t, none⟩) hgC _).setCell (p := ⟨gN, t, none⟩) hgN _⟩
                  case measure => simp [intOf]; omega
                · have hdn : decide (ctv < 0) = false := by simp; omega
                  by_cases hless : stp wd ws C t (k + 1) < C t
                  · have HI2 := HT (.inr (by rw [HSS.out, HCTV.out] at hless; exact hless))
                    rw [HSS.out, HCTV.out] at hless
                    clear HT HK
                    go_wp2_with fail
                    go_roundw
                    case rel => exact ⟨k + 1, upd C t _, upd N t _, by omega, by omega, by go_num, by rw [HS.out], (rows_take RC RN hne t _ _).1, (rows_take RC RN hne t _ _).2, (show ∀ j, t < j → j < ws.length → Dp wd ws _ _ j from fun j h1 h2 => dp_upd wd ws C N t _ _ j h1 (HD.out j h1 h2)), HI2.out, by rw [HS.out]; exact hf2, (KW.setCell (p := ⟨gC, t, none⟩) hgC _).setCell (p := ⟨gN, t, none⟩) hgN _⟩
                    case measure => simp [intOf]; omega
                  · rw [HSS.out, HCTV.out] at hless
                    have HI2 := HK hneg hless
                    clear HT HK
                    go_wp2_with fail
                    go_roundw
                    case rel => exact ⟨k + 1, C, N, by omega, by omega, by go_num, by rw [HS.out], RC, RN, HD, HI2.out, by rw [HS.out]; exact hf2, KW⟩
                    case measure => simp [intOf]; omega
          · obtain rfl : k = ws.length := by omega
            have HDP := Lib.hid (inn_dp wd ws C N t ws.length (fun n hn => (hb n hn).1) HI.out htn (Nat.le_refl _) (.inl rfl))
            generalize lf wd (seg ws t ws.length) = f at *
            go_wp2_with fail
            go_roundw
            case rel => exact ⟨t, C, N, by omega, rfl, RC, RN, (show ∀ j, t ≤ j → j < ws.length → Dp wd ws C N j from fun j h1 h2 => by
              rcases Nat.eq_or_lt_of_le h1 with e | h
              · subst e; exact HDP.out
              · exact HD.out j h h2), KW⟩
            case measure => simp [intOf]
end Go.Proofs.Ytifjahfolmhhpaa
