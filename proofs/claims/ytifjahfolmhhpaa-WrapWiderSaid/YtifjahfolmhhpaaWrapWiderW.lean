/-
  The walk of WrapWider: at every input it returns true, and nothing that was there is changed.
-/
import Derived.Test.YtifjahfolmhhpaaWrapB
namespace Go.Proofs.Ytifjahfolmhhpaa
open Go.RowKit
set_option linter.unusedVariables false

theorem cost_is (v v2 : Value) (ws : List Int) (ls : List (List Int)) (wd : Int) (w : World) (hfl : ls.flatten = ws) (h : Row .i64 w v ws) (h2 : Row .i64 w v2 ((sts 0 ls).map fun (x : Nat) => (x : Int))) (hb : ∀ x ∈ ws, 1 ≤ x ∧ x ≤ wd) (hf : Fit wd ls) (hl : ws.length ≤ 80) (hw : 1 ≤ wd) (hw2 : wd ≤ 60) :
    Calls Try.prog 35 #[v, .int .i64 wd, v2] w (CostPost (pcost wd ls) w) := by
  subst hfl; exact cost_any v v2 ls wd w h h2 hb hf hl hw hw2
theorem fit_mono (w w' : Int) (ls : List (List Int)) (h : w ≤ w') (hf : Fit w ls) : Fit w' ls := fun l hl => ⟨(hf l hl).1, by have := (hf l hl).2; simp only [lf] at *; omega⟩
theorem gls_len (w : Int) (ws : List Int) (h : ∀ n ∈ ws, 1 ≤ n ∧ n ≤ w) : (gls w ws).length = (gr w (-1) 0 ws).length := by rw [← gls_sts w ws h, sts_len]
theorem wider_fewer (w : Int) (ws : List Int) (h : ∀ n ∈ ws, 1 ≤ n ∧ n ≤ w) : (gr (w + 1) (-1) 0 ws).length ≤ (gr w (-1) 0 ws).length := by
  have h1 := gr_fewest (w + 1) (gls w ws) (by rw [gls_flat]; exact fun n hn => (h n hn).1) (fit_mono w _ _ (by omega) (gls_fit w ws h)) 0
  rw [gls_flat, gls_len w ws h] at h1; exact h1
theorem one_line (w : Int) (ws : List Int) (h : ∀ n ∈ ws, 1 ≤ n ∧ n ≤ w) (hw : 1 ≤ w) : 0 ≤ lf w ws ↔ (gr w (-1) 0 ws).length ≤ 1 := by
  constructor
  · intro h0
    by_cases hn : ws = []
    · subst hn; simp [gr]
    · have := gr_fewest w [ws] (by simpa using fun n hn => (h n hn).1) (fun l hl => by simp at hl; subst hl; exact ⟨hn, h0⟩) 0
      simpa using this
  · intro h1
    rw [← gls_len w ws h] at h1
    have hf := gls_fit w ws h
    have he := gls_flat w ws
    generalize gls w ws = L at *
    rcases L with _ | ⟨l, _ | ⟨m, r⟩⟩
    · simp at he; subst he; simp [lf]; omega
    · simp at he; subst he; exact (hf l (by simp)).2
    · simp at h1
theorem one_cost (w : Int) (ws : List Int) (ls : List (List Int)) (h0 : 0 ≤ lf w ws) (he : ls.flatten = ws) (hf : Fit w ls) (ho : ∀ ls', ls'.flatten = ws → Fit w ls' → pcost w ls ≤ pcost w ls') : pcost w ls = 0 := by
  have h2 := pcost_nonneg w ls
  by_cases hn : ws = []
  · have := ho [] (by simp [hn]) (fun l hl => by simp at hl)
    simp [pcost] at this; omega
  · have := ho [ws] (by simp) (fun l hl => by simp at hl; subst hl; exact ⟨hn, h0⟩)
    simp [pcost] at this; omega
theorem gr_row {w : World} {base : Nat} {e : TypeId} {v : Value} {wd : Int} {ws : List Int} (hl : ws.length ≤ 1000) (h : w.ownsRow base e 1 v (gr wd (-1) 0 ws).length ((gr wd (-1) 0 ws).map fun (x : Nat) => Value.int .i64 (x : Int))) : Row .i64 w v ((gr wd (-1) 0 ws).map fun (x : Nat) => (x : Int)) :=
  row_of_own (by rw [List.length_map, List.map_map]; exact h) (fun x hx => by
    obtain ⟨y, hy, rfl⟩ := List.mem_map.1 hx
    have := gr_bd wd ws (-1) 0 y hy
    exact wfi _ (by omega))
theorem lit_one (h : World) : Row .i64 (h.alloc (.cells #[.int .i64 1] 3)) (.slice (some ⟨h.heap.size, 0, none⟩) 1 1) [1] := Row.lit h 3 .i64 [1] (by decide) (by intro x hx; simp at hx; subst hx; exact wfi 1 (by omega))
theorem greedy_one (W h : World) (hh : W = h.alloc (.cells #[.int .i64 1] 3)) : Calls Try.prog 33 #[.slice (some ⟨h.heap.size, 0, none⟩) 1 1, .int .i64 1] W (GreedyPost 1 [1] W) := by
  refine greedy_any (.slice (some ⟨h.heap.size, 0, none⟩) 1 1) [1] 1 W (by rw [hh]; exact lit_one h) (by intro x hx; simp at hx; omega) (by decide) (by decide) (by decide)

set_option maxRecDepth 100000 in
set_option maxHeartbeats 4000000 in
theorem wrapWider_walk (w : World) (v0 : Value) (l : List Int) (h0 : Row .i64 w v0 l) (wide : Int) (hwide : -9223372036854775808 ≤ wide ∧ wide ≤ 9223372036854775807) :
    Calls Try.prog 14 #[v0, .int .i64 wide] w fun e w' => e = .returned (.bool true) ∧ Below w.heap.size w w' := by
  have hp := fun W => picked_any wide 40 W hwide (by omega) (by omega)
  have hm := Int.emod_nonneg wide (show (40 : Int) ≠ 0 by omega)
  have hm2 := Int.emod_lt_of_pos wide (show (0 : Int) < 40 by omega)
  generalize wide % 40 = y at *
  have HP := Lib.hid hp
  clear hp
  go_enter Try.func14, Try.ntmps14
  go_wp2_with fail
  refine (HP.out _).mono ?_
  rintro e w' ⟨rfl, rfl⟩
  clear HP
  go_wp2_with fail
  obtain ⟨wd, hwd⟩ : ∃ wd : Int, 4 + y = wd := ⟨_, rfl⟩
  have hw4 : 4 ≤ wd ∧ wd ≤ 43 := by omega
  have HW := Lib.hid (fun W h => widths_any v0 l 60 wd W h (by omega) (by omega) (by omega))
  rw [← hwd] at HW
  refine (HW.out _ h0).mono ?_
  rw [hwd]
  rintro e w1 ⟨v, ws, rfl, hown, hws, hwl, k1⟩
  clear HW hwd hm hm2 h0
  have hrow : Row .i64 w1 v ws := row_of_own hown (fun x hx => wfi x (by have := hws x hx; omega))
  clear hown
  obtain ⟨A, c, rfl, hl1, hl2, _, _⟩ := id hrow
  unfold maxLen at hl2
  go_wp2_with (at_builtin; refine wpList_copyInts rfl (.tmp 26) _ rfl 3 .i64 _ 8 Try.underlying22 int_info rfl _ ws rfl hrow (by omega) (by omega) ?_)
  intro v2 w2 _ hrow2 hb2
  have k2 := bstep k1 hb2
  replace hrow := hrow.later hb2
  clear k1 hb2
  go_wp2_with fail
  refine (greedy_any v2 ws wd _ hrow2 hws (by omega) (by omega) (by omega)).mono ?_
  rintro e w3 ⟨v3, rfl, hown3, hb3⟩
  have k3 := bstep k2 hb3
  replace hrow := hrow.later hb3
  obtain ⟨A3, c3, rfl, hl3, hc3⟩ := own_slice hown3
  clear k2 hb3 hrow2 hown3
  go_wp2_with (at_builtin; refine wpList_copyInts rfl (.tmp 33) _ rfl 3 .i64 _ 8 Try.underlying22 int_info rfl _ ws rfl hrow (by omega) (by omega) ?_)
  intro v4 w4 _ hrow4 hb4
  have k4 := bstep k3 hb4
  replace hrow := hrow.later hb4
  clear k3 hb4
  go_wp2_with fail
  refine (greedy_any v4 ws (wd + 1) _ hrow4 (fun x hx => by have := hws x hx; omega) (by omega) (by omega) (by omega)).mono ?_
  rintro e w5 ⟨v5, rfl, hown5, hb5⟩
  have k5 := bstep k4 hb5
  replace hrow := hrow.later hb5
  obtain ⟨A5, c5, rfl, hl5, hc5⟩ := own_slice hown5
  clear k4 hb5 hrow4 hown5
  have hwf := wider_fewer wd ws hws
  have hol := one_line wd ws hws (by omega)
  have HOC := Lib.hid (fun ls => one_cost wd ws ls)
  have hz : wd - lf wd (ws.take 0) = -1 := by simp [lf]; omega
  generalize gr (wd + 1) (-1) 0 ws = G5 at *
  generalize gr wd (-1) 0 ws = G3 at *
  have HOL := Lib.hid hol
  have HZ := Lib.hid hz
  clear hol hz
  unfold maxLen at hc3 hc5
  go_wp2_with fail
  go_loop [11, 12] (fun s i => ∃ k : Nat, k ≤ ws.length ∧ i = .int .i64 k ∧ s = .int .i64 (wd - lf wd (ws.take k))) (fun _ i => ws.length - (intOf i).toNat)
  case atStart => exact ⟨0, Nat.zero_le _, rfl, by rw [HZ.out]⟩
  case round =>
    obtain ⟨k, hk, rfl, rfl⟩ := hrel
    by_cases hlt : k < ws.length
    · obtain ⟨b0, o0, hA, hb0, hcell⟩ := Row.at_ (show Reads w5 w5.heap.size 1 A ws.length (ws.map (.int .i64)) by obtain ⟨A', c', hv, _, _, _, hh⟩ := id hrow; cases hv; exact hh) hlt
      subst hA
      have eg : ws.getD k 0 = ws[k] := by simp [List.getD, hlt]
      rw [eg] at hcell
      have hx := hws ws[k] (List.getElem_mem hlt)
      have hge := lf_ge wd (ws.take k) (fun n hn => by have := hws n (List.mem_of_mem_take hn); omega)
      have hle := lf_le wd (ws.take k) (fun n hn => (hws n (List.mem_of_mem_take hn)).1)
      have hlk : (ws.take k).length = k := by simp; omega
      rw [hlk] at hge
      have hs := lf_snoc wd (ws.take k) ws[k]
      rw [← List.take_succ_eq_append_getElem hlt] at hs
      have hq : wd - lf wd (ws.take (k + 1)) = wd - lf wd (ws.take k) + (ws[k] + 1) := by rw [hs]; omega
      generalize ws[k] = x at *
      generalize lf wd (ws.take k) = f at *
      have HS := Lib.hid hq
      clear hq hs eg hlk
      go_wp2_with fail
      go_round
      case rel => exact ⟨k + 1, by omega, by go_num, by rw [HS.out]⟩
      case measure => simp [intOf]; omega
    · obtain rfl : k = ws.length := by omega
      have hge := lf_ge wd ws (fun n hn => by have := hws n hn; omega)
      have hle := lf_le wd ws (fun n hn => (hws n hn).1)
      rw [List.take_length]
      go_wp2_with (at_builtin; refine wpList_copyInts rfl (.tmp 54) _ rfl 3 .i64 _ 8 Try.underlying22 int_info rfl _ ws rfl hrow (by omega) (by omega) ?_)
      intro v6 w6 _ hrow6 hb6
      have k6 := bstep k5 hb6
      replace hrow := hrow.later hb6
      clear k5 hb6
      go_wp2_with fail
      refine (best_any v6 ws wd _ hrow6 hws (by omega) (by omega) (by omega)).mono ?_
      rintro e w7 ⟨v7, ls, rfl, hrow7, hfl, hfit, hopt, hb7⟩
      have k7 := bstep k6 hb7
      replace hrow := hrow.later hb7
      have HFL := Lib.hid hfl
      clear k6 hb7 hrow6 hfl
      go_wp2_with fail
      refine (cost_is _ _ ws ls wd _ HFL.out hrow hrow7 hws hfit (by omega) (by omega) (by omega)).mono ?_
      rintro e w8 ⟨rfl, hb8⟩
      have k8 := bstep k7 hb8
      clear k7 hb8 hrow hrow7
      have HC0 := Lib.hid (fun h => HOC.out ls h HFL.out hfit hopt)
      have HG1 := Lib.hid greedy_one
      go_wp2_with fail
      refine (HG1.out _ w8 rfl).mono ?_
      rintro e w9 ⟨v9, rfl, hown9, hb9⟩
      have k9 := bstep k8 (bstep_alloc hb9)
      rw [show gr 1 (-1) 0 [1] = [0] by decide] at hown9
      obtain ⟨g9, c9, hv9, _⟩ := hown9.form (by decide)
      have hv9' : v9 = .slice (some ⟨g9, 0, none⟩) 1 c9 := hv9
      subst hv9'
      clear hown9 hv9 hb9 k8 hopt
      have hd : decide ((G3.length : Int) < (G5.length : Int)) = false := by simp; omega
      have hd2 : ¬ G3.length < G5.length := by omega
      by_cases hf0 : 0 ≤ lf wd ws
      · have hg3 := HOL.out.1 hf0
        have hc0 := HC0.out hf0
        rw [hc0]
        clear HOL HC0 hc0
        generalize lf wd ws = f at *
        have e1 : wd - f ≤ wd := by omega
        have e2 : (G3.length : Int) ≤ 1 := by omega
        have e3 : decide (wd - f ≤ wd) = true := by simp; omega
        have e4 : decide ((G3.length : Int) ≤ 1) = true := by simp; omega
        have e5 : decide (wd < wd - f) = false := by simp; omega
        go_wp2_with fail
        go_ret
        exact ⟨rfl, k9⟩
      · have hg3 : ¬ G3.length ≤ 1 := fun h => hf0 (HOL.out.2 h)
        clear HOL HC0
        generalize lf wd ws = f at *
        have e3 : decide (wd - f ≤ wd) = false := by simp; omega
        have e4 : decide ((G3.length : Int) ≤ 1) = false := by simp; omega
        have e5 : decide (wd < wd - f) = true := by simp; omega
        go_wp2_with fail
        go_ret
        exact ⟨rfl, k9⟩
end Go.Proofs.Ytifjahfolmhhpaa
