/-
  The walks of spans.May and spans.Take at sets that may be.
-/
import Derived.Test.YtegobmlbldabbaaSpanW
import Derived.Test.YtegobmlbldabbaaMix
namespace Go.Proofs.Ytegobmlbldabbaa
open Go.RowKit Go.Shelf
set_option linter.unusedVariables false
set_option linter.unusedSimpArgs false

theorem nrm_lt (l : List Sp) : ∀ b, Nrm b l → ∀ k (hk : k < l.length), l[k].lo < l[k].hi := by
  induction l with
  | nil => intro b _ k hk; simp at hk
  | cons s l ih =>
    intro b h k hk
    cases k with
    | zero => exact h.2.1
    | succ k => exact ih _ h.2.2 k (by simpa using hk)
theorem nrm_next (l : List Sp) : ∀ b, Nrm b l → ∀ k (hk : k + 1 < l.length), l[k].hi < l[k + 1].lo := by
  induction l with
  | nil => intro b _ k hk; simp at hk
  | cons s l ih =>
    intro b h k hk
    cases k with
    | zero =>
      cases l with
      | nil => simp at hk
      | cons t l => exact h.2.2.1
    | succ k => exact ih _ h.2.2 k (by simpa using hk)
set_option maxRecDepth 100000 in
set_option maxHeartbeats 2000000 in
theorem spansMay_any (n : Nat) (v : Value) (l : List Sp) (w : World) (h : CRow 2 spc w v l) (hl : l.length ≤ 40) (hn : n ≤ 600) (hN : Nrm 0 l) (hhi : ∀ x ∈ l, x.hi ≤ n) :
    Calls Try.prog 54 #[.int .i64 (n : Int), v] w fun e w' => e = .returned (.bool true) ∧ Below w.heap.size w w' := by
  obtain ⟨A, c, rfl, hc1, hc2, hrd⟩ := h
  have HRD := Lib.hid hrd
  have HLT := Lib.hid (nrm_lt l 0 hN)
  have HNX := Lib.hid (nrm_next l 0 hN)
  have HHI := Lib.hid hhi
  clear hrd hN hhi
  go_enter Try.func54, Try.ntmps54
  go_wp2_with fail
  go_loopw [5, 7, 21] (fun vl vx vi wr => ∃ (k : Nat) (t : Int), k ≤ l.length ∧ vi = .int .i64 k ∧ vl = .int .i64 t ∧ Hid (∀ hk : k < l.length, t < (l[k].lo : Int)) ∧ Below w.heap.size w wr) (fun _ _ vi _ => l.length - (intOf vi).toNat)
  case atStart => exact ⟨0, -1, Nat.zero_le _, rfl, rfl, Lib.hid (fun hk => by omega), Below.refl _ _⟩
  case round =>
    obtain ⟨k, t, hk, rfl, rfl, HT, hb⟩ := hrel
    have hbs := hb.size
    by_cases hlt : k < l.length
    · obtain ⟨b, off, rfl, hbb, x0, x1⟩ := CRow.cells2 (HRD.out.below hb) hlt
      have h1 := HT.out hlt
      have h2 := HLT.out k hlt
      have h3 := HHI.out l[k] (List.getElem_mem hlt)
      have HT2 : Hid (∀ hk : k + 1 < l.length, (l[k].hi : Int) < (l[k + 1].lo : Int)) := Lib.hid (fun hk => by have := HNX.out k hk; omega)
      have hbw : b < wr.heap.size := by omega
      have g1 : ¬ (l[k].lo : Int) ≤ t := by omega
      have g2 : ¬ (l[k].hi : Int) ≤ (l[k].lo : Int) := by omega
      have g3 : ¬ (n : Int) < (l[k].hi : Int) := by omega
      generalize l[k] = x at *
      have HB := Lib.hid (hb.alloc hbs (.cells #[.int .i64 (x.lo : Int), .int .i64 (x.hi : Int)] 56))
      clear hb HT h1
      go_wp2_with fail
      go_roundw
      case rel => exact ⟨k + 1, _, by omega, by go_num, rfl, HT2, HB.out⟩
      case measure => simp [intOf]; omega
    · have HB := Lib.hid hb
      clear hb
      go_wp2_with fail
      go_ret
      exact ⟨rfl, HB.out⟩
theorem own_hi_ne {w : World} {base n g : Nat} {el : TypeId} {size : Nat} {v : Value} {xs : List Value} (h : w.ownsRow base el size v n xs) (hg : g < base) : v.ownBlock ≠ some g := by
  intro e; have := (h.lt _ e).1; omega
def TakePost (x : Sp) (r : List Sp) (many : Nat) (w : World) (e : Ending) (w' : World) : Prop :=
  ∃ v', e = .returned (.tuple #[.agg #[.int .i64 (x.lo : Int), .int .i64 ((x.lo + min many (x.hi - x.lo) : Nat) : Int)], v', .int .i64 0]) ∧ w'.ownsRow w.heap.size 56 2 v' (without (x :: r) ⟨x.lo, x.lo + min many (x.hi - x.lo)⟩).length (cellsOf spc (without (x :: r) ⟨x.lo, x.lo + min many (x.hi - x.lo)⟩)) ∧ Below w.heap.size w w'
set_option maxRecDepth 100000 in
set_option maxHeartbeats 2000000 in
theorem take_none (n many : Nat) (v : Value) (w : World) (base : Nat) (h : w.ownsRow base 56 2 v 0 (cellsOf spc [])) (hn : n ≤ 600) (hm : 1 ≤ many) (hm2 : many ≤ 1000) :
    Calls Try.prog 26 #[.int .i64 (n : Int), v, .int .i64 (many : Int)] w fun e w' => e = .returned (.tuple #[.agg #[.int .i64 0, .int .i64 0], .slice none 0 0, .int .i64 7]) ∧ Below w.heap.size w w' := by
  have hal := (Below.refl w.heap.size w).alloc (Nat.le_refl _) (.cells #[.int .i64 0, .int .i64 0] 56)
  have HM := Lib.hid (spansMay_any n v [] _ ((CRow.of_own (xs := ([] : List Sp)) spc_len h).later hal) (by simp) hn trivial (by simp))
  obtain ⟨A, c, rfl, hc1, hc2⟩ := own_slice h
  have hmi : ¬ (many : Int) < 1 := by omega
  clear h
  go_enter Try.func26, Try.ntmps26
  go_wp2_with fail
  refine HM.out.mono ?_
  rintro e w1 ⟨rfl, hb1⟩
  have BX := (Blk.new w 56 #[.int .i64 0, .int .i64 0]).below hb1 (by simp)
  have y0 : w1.cell? ⟨w.heap.size, 0, none⟩ = some (.int .i64 0) := BX.cell 0
  have y1 : w1.cell? ⟨w.heap.size, 1, none⟩ = some (.int .i64 0) := BX.cell 1
  have f0 := BX.frozen 0
  have f1 := BX.frozen 1
  have HB := Lib.hid (hal.trans (hb1.mono (by simp)))
  clear hb1 hal
  go_wp2_with fail
  refine bodyPost_ret (v := .tuple #[.agg #[.int .i64 0, .int .i64 0], .slice none 0 0, .int .i64 7]) (by simp [results, Try.results26, go_sem, y0, y1]) rfl ⟨rfl, ?_⟩
  exact (HB.out.setCell (by simp) _).setCell (by simp) _
set_option maxRecDepth 100000 in
set_option maxHeartbeats 4000000 in
theorem take_some (n many : Nat) (v : Value) (x : Sp) (r : List Sp) (w : World) (base : Nat) (h : w.ownsRow base 56 2 v (x :: r).length (cellsOf spc (x :: r))) (hl : (x :: r).length ≤ 40) (hn : n ≤ 600) (hN : Nrm 0 (x :: r)) (hhi : ∀ y ∈ x :: r, y.hi ≤ n) (hm : 1 ≤ many) (hm2 : many ≤ 1000) :
    Calls Try.prog 26 #[.int .i64 (n : Int), v, .int .i64 (many : Int)] w (TakePost x r many w) := by
  have hal := (Below.refl w.heap.size w).alloc (Nat.le_refl _) (.cells #[.int .i64 0, .int .i64 0] 56)
  have HM := Lib.hid (spansMay_any n v (x :: r) _ ((CRow.of_own spc_len h).later hal) hl hn hN hhi)
  have hx := hN.2.1
  have hxn := hhi x (by simp)
  have hsm : Small (x :: r) := fun y hy => by
    have h1 := hhi y hy
    have h2 := (nrm_hi _ _ hN y hy).2.1
    omega
  obtain ⟨m, hmm⟩ : ∃ m, min many (x.hi - x.lo) = m := ⟨_, rfl⟩
  have hm1 : 1 ≤ m ∧ m ≤ x.hi - x.lo := by omega
  have hmi : ((if (many : Int) ≤ (x.hi : Int) - (x.lo : Int) then (many : Int) else (x.hi : Int) - (x.lo : Int))) = (m : Int) := by split <;> omega
  have hmn : min (many : Int) ((x.hi : Int) - (x.lo : Int)) = (m : Int) := by omega
  have HWO := Lib.hid (fun W (hW : Below w.heap.size w W) => without_any v (x :: r) ⟨x.lo, x.lo + m⟩ W base (own_below h hW) (by omega) ⟨show x.lo ≤ 100000 by omega, show x.lo + m ≤ 100000 by omega⟩ hsm)
  have hwr : WoRes (x :: r) ⟨x.lo, x.lo + m⟩ = without (x :: r) ⟨x.lo, x.lo + m⟩ := if_neg (by show ¬ x.lo = x.lo + m; omega)
  rw [hwr] at HWO
  unfold spv at HWO
  unfold TakePost
  rw [hmm]
  simp only at HWO
  obtain ⟨g, cap, rfl, hg, hgl⟩ := h.form (by simp)
  have x0 := h.cells (g := g) rfl 0 (.int .i64 (x.lo : Int)) rfl
  have x1 := h.cells (g := g) rfl 1 (.int .i64 (x.hi : Int)) rfl
  rw [add_head] at x0 x1
  have hll : (0 : Int) < ((x :: r).length : Int) := by simp only [List.length_cons]; omega
  have hlz : (((x :: r).length : Int) == 0) = false := by rw [beq_eq_false_iff_ne]; simp only [List.length_cons]; omega
  have hmany : ¬ (many : Int) < 1 := by omega
  generalize without (x :: r) ⟨x.lo, x.lo + m⟩ = res at *
  generalize (x :: r).length = len at *
  have HX := Lib.hid hhi
  clear hwr h hN hhi hsm hmm HX
  go_enter Try.func26, Try.ntmps26
  go_wp2_with fail
  refine HM.out.mono ?_
  rintro e w1 ⟨rfl, hb1⟩
  have BX := (Blk.new w 56 #[.int .i64 0, .int .i64 0]).below hb1 (by simp)
  have y0 : w1.cell? ⟨w.heap.size, 0, none⟩ = some (.int .i64 0) := BX.cell 0
  have y1 : w1.cell? ⟨w.heap.size, 1, none⟩ = some (.int .i64 0) := BX.cell 1
  have f0 := BX.frozen 0
  have f1 := BX.frozen 1
  have HB := Lib.hid (hal.trans (hb1.mono (by simp)))
  have hs1 := hb1.size
  simp at hs1
  have z0 : w1.cell? ⟨g, 0, none⟩ = some (.int .i64 (x.lo : Int)) := (HB.out.cell (p := ⟨g, 0, none⟩) hgl).trans x0
  have z1 : w1.cell? ⟨g, 1, none⟩ = some (.int .i64 (x.hi : Int)) := (HB.out.cell (p := ⟨g, 1, none⟩) hgl).trans x1
  clear hb1 hal HM x0 x1
  go_wp2_with fail
  have BX3 := ((BX.set_ 0 (.int .i64 (x.lo : Int))).set_ 1 (.int .i64 (x.hi : Int))).set_ 1 (.int .i64 ((x.lo : Int) + (m : Int)))
  have HB3 := Lib.hid (((HB.out.setCell (p := ⟨w.heap.size, 0, none⟩) (Nat.le_refl _) (.int .i64 (x.lo : Int))).setCell (p := ⟨w.heap.size, 1, none⟩) (Nat.le_refl _) (.int .i64 (x.hi : Int))).setCell (p := ⟨w.heap.size, 1, none⟩) (Nat.le_refl _) (.int .i64 ((x.lo : Int) + (m : Int))))
  generalize ((w1.setCell ⟨w.heap.size, 0, none⟩ (.int .i64 (x.lo : Int))).setCell ⟨w.heap.size, 1, none⟩ (.int .i64 (x.hi : Int))).setCell ⟨w.heap.size, 1, none⟩ (.int .i64 ((x.lo : Int) + (m : Int))) = W at *
  have BX4 : Blk W w.heap.size 56 #[.int .i64 (x.lo : Int), .int .i64 ((x.lo : Int) + (m : Int))] := BX3
  clear BX3 BX HB y0 y1 f0 f1 z0 z1
  refine wp_region_mix 3 1 (fun w' => Below W.heap.size W w') (by kernel_rfl) (by kernel_rfl) (fun _ _ h1 h2 => bstep h1 h2) (Below.refl _ _) ?_
  intro ι F hne hF
  have c0 : ∀ i, (F i).cell? ⟨w.heap.size, 0, none⟩ = some (.int .i64 (x.lo : Int)) := fun i => (BX4.below (hF i) BX4.lt).cell 0
  have c1 : ∀ i, (F i).cell? ⟨w.heap.size, 1, none⟩ = some (.int .i64 ((x.lo : Int) + (m : Int))) := fun i => (BX4.below (hF i) BX4.lt).cell 1
  simp only [List.take_succ_cons, List.take_zero, List.drop_succ_cons, List.drop_zero]
  repeat (refine wpB_step (fun K hK => ?_); go_simp; first | (refine hK _ ?_; clear hK K) | (apply Exists.intro; refine ⟨fun _ => ?_, hK _ ?_⟩; (fail); clear hK K))
  refine wpB_nil ?_
  intro w2 hw2 hI2
  clear c0 c1 hF
  have HI2 := Lib.hid hI2
  clear hI2
  refine wpR_step (fun K hK => ?_)
  go_simp
  refine (HWO.out w2 (bstep HB3.out HI2.out)).mono ?_
  rintro e w4 ⟨v4, rfl, ho4, hb4⟩
  refine ⟨_, rfl, hK _ _ ⟨bstep HI2.out hb4, ?_⟩⟩
  clear hK K
  intro w5 hw5 hI5
  have BX5 := (BX4.below hI5 BX4.lt)
  have y0 : w5.cell? ⟨w.heap.size, 0, none⟩ = some (.int .i64 (x.lo : Int)) := BX5.cell 0
  have y1 : w5.cell? ⟨w.heap.size, 1, none⟩ = some (.int .i64 ((x.lo : Int) + (m : Int))) := BX5.cell 1
  have f0 := BX5.frozen 0
  have f1 := BX5.frozen 1
  have hw2s := HI2.out.size
  have hWs := BX4.lt
  have HO5 := Lib.hid (own_below ho4 hw5)
  have HB5 := Lib.hid (bstep HB3.out hI5)
  refine wpR_nil ?_
  obtain ⟨A4, c4, rfl, hA41, hA42⟩ := own_slice ho4
  clear ho4 hb4 hw5 hI5 hw2
  go_wp2_with fail
  refine bodyPost_ret (v := .tuple #[.agg #[.int .i64 (x.lo : Int), .int .i64 ((x.lo : Int) + (m : Int))], .slice A4 res.length c4, .int .i64 0]) (by simp [results, Try.results26, go_sem, y0, y1]) rfl ⟨_, by rw [Int.natCast_add], ?_, ?_⟩
  · have h9 := own_mono HO5.out (show w.heap.size ≤ w2.heap.size by omega)
    exact own_far (own_far h9 ⟨w.heap.size, 0, none⟩ _ (own_hi_ne HO5.out (by show w.heap.size < w2.heap.size; omega))) ⟨w.heap.size, 1, none⟩ _ (own_hi_ne HO5.out (by show w.heap.size < w2.heap.size; omega))
  · exact (HB5.out.setCell (by simp) _).setCell (by simp) _
end Go.Proofs.Ytegobmlbldabbaa
