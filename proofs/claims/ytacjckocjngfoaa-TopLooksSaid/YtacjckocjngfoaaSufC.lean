/-
  The walks of the two functions by which ends of a text are sorted.
-/
import Derived.Test.YtacjckocjngfoaaCmp
import Derived.Test.YtacjckocjngfoaaSufL
import Derived.StillTailTactics
namespace Go.Proofs.Ytacjckocjngfoaa.Gr
open Go.RowKit Go.Sort
set_option linter.unusedVariables false
set_option linter.unusedSimpArgs false

theorem or_two (g : Nat) (x y : Int) (w : World) (h0 : w.cell? ⟨g, 0, none⟩ = some (.int .i64 x)) (h1 : w.cell? ⟨g, 1, none⟩ = some (.int .i64 y)) : Calls Try.prog 34 #[.slice (some ⟨g, 0, none⟩) 2 2] w fun e w' => e = .returned (.int .i64 (if x = 0 then y else x)) ∧ w' = w := by
  by_cases hx : x = 0
  · subst hx
    rw [if_pos rfl]
    by_cases hy : y = 0
    · subst hy
      go_enter Try.func34, Try.ntmps34
      go_wp2_with fail
      refine wp_loop_rounds 3 ?_
      rw [rounds_succ]
      go_wp2_with fail
      rw [rounds_succ]
      go_wp2_with fail
      rw [rounds_succ]
      go_wp2_with fail
      go_ret
      exact ⟨rfl, rfl⟩
    · have hy' : (y == 0) = false := by simpa using hy
      go_enter Try.func34, Try.ntmps34
      go_wp2_with fail
      refine wp_loop_rounds 3 ?_
      rw [rounds_succ]
      go_wp2_with fail
      rw [rounds_succ]
      go_wp2_with fail
      go_ret
      exact ⟨rfl, rfl⟩
  · rw [if_neg hx]
    have hx' : (x == 0) = false := by simpa using hx
    go_enter Try.func34, Try.ntmps34
    go_wp2_with fail
    refine wp_loop_rounds 3 ?_
    rw [rounds_succ]
    go_wp2_with fail
    go_ret
    exact ⟨rfl, rfl⟩
/-- What 'sorted' keeps in boxes: the width, the length, the ranks. -/
structure SufBox (W : World) (n w : Nat) (r : Nat → Nat) (gw gn gr rb : Nat) : Prop where
  bw : W.cell? ⟨gw, 0, none⟩ = some (.int .i64 (w : Int))
  bn : W.cell? ⟨gn, 0, none⟩ = some (.int .i64 (n : Int))
  br : W.cell? ⟨gr, 0, none⟩ = some (.slice (some ⟨rb, 0, none⟩) n n)
  bc : ∀ i, i < n → W.cell? ⟨rb, i, none⟩ = some (.int .i64 (r i : Int))
theorem SufBox.later {W W' : World} {n w : Nat} {r : Nat → Nat} {gw gn gr rb : Nat} (h : SufBox W n w r gw gn gr rb) (hb : Below W.heap.size W W') : SufBox W' n w r gw gn gr rb :=
  ⟨(hb.cell (p := ⟨gw, 0, none⟩) (block_lt_of_cell h.bw)).trans h.bw, (hb.cell (p := ⟨gn, 0, none⟩) (block_lt_of_cell h.bn)).trans h.bn, (hb.cell (p := ⟨gr, 0, none⟩) (block_lt_of_cell h.br)).trans h.br, fun i hi => (hb.cell (p := ⟨rb, i, none⟩) (block_lt_of_cell (h.bc i hi))).trans (h.bc i hi)⟩
set_option maxHeartbeats 1000000 in
theorem second_any (W : World) (n w : Nat) (r : Nat → Nat) (gw gn gr rb : Nat) (h : SufBox W n w r gw gn gr rb) (i : Nat) (hi : i ≤ 100000) (hw : w ≤ 100000) (hn : n ≤ 100000) :
    Calls Try.prog 32 #[.int .i64 (i : Int), .pointer (some ⟨gw, 0, none⟩), .pointer (some ⟨gn, 0, none⟩), .pointer (some ⟨gr, 0, none⟩)] W fun e w' => e = .returned (.int .i64 (sec n w r i)) ∧ w' = W := by
  have b0 := h.bw
  have b1 := h.bn
  have b2 := h.br
  unfold sec
  by_cases q : i + w < n
  · have b3 := h.bc _ q
    rw [if_pos q]
    generalize r (i + w) = v at *
    generalize hk : i + w = k at *
    have e1 : (i : Int) + (w : Int) = (k : Int) := by omega
    have g1 : (k : Int) < (n : Int) := by omega
    have g0 : (0 : Int) ≤ (k : Int) := by omega
    clear h hk
    go_enter Try.func32, Try.ntmps32
    go_wp2_with fail
    go_ret
    exact ⟨rfl, rfl⟩
  · rw [if_neg q]
    have g1 : ¬ (i : Int) + (w : Int) < (n : Int) := by omega
    clear h b2
    go_enter Try.func32, Try.ntmps32
    go_wp2_with fail
    go_ret
    exact ⟨rfl, rfl⟩
theorem compare_z (x y : Int) (w : World) : Calls Try.prog 18 #[.int .i64 x, .int .i64 y] w fun e w' => e = .returned (.int .i64 (cmpZ x y)) ∧ w = w' := by
  unfold cmpZ
  by_cases q : x < y
  · rw [if_pos q]
    go_enter Try.func18, Try.ntmps18
    go_wp2_with fail
    refine (isNaN_int _ _).mono ?_
    rintro e w1 ⟨rfl, rfl⟩
    go_wp2_with fail
    refine (isNaN_int _ _).mono ?_
    rintro e w1 ⟨rfl, rfl⟩
    go_wp2_with fail
    go_ret
    exact ⟨rfl, rfl⟩
  · rw [if_neg q]
    by_cases r : y < x
    · rw [if_pos r]
      go_enter Try.func18, Try.ntmps18
      go_wp2_with fail
      refine (isNaN_int _ _).mono ?_
      rintro e w1 ⟨rfl, rfl⟩
      go_wp2_with fail
      refine (isNaN_int _ _).mono ?_
      rintro e w1 ⟨rfl, rfl⟩
      go_wp2_with fail
      go_ret
      exact ⟨rfl, rfl⟩
    · rw [if_neg r]
      go_enter Try.func18, Try.ntmps18
      go_wp2_with fail
      refine (isNaN_int _ _).mono ?_
      rintro e w1 ⟨rfl, rfl⟩
      go_wp2_with fail
      refine (isNaN_int _ _).mono ?_
      rintro e w1 ⟨rfl, rfl⟩
      go_wp2_with fail
      go_ret
      exact ⟨rfl, rfl⟩
set_option maxRecDepth 100000 in
set_option maxHeartbeats 2000000 in
theorem sufCmp (W : World) (n w : Nat) (r : Nat → Nat) (gw gn gr rb gs : Nat) (h : SufBox W n w r gw gn gr rb) (hs : W.cell? ⟨gs, 0, none⟩ = some (.func (.func 32) #[] #[.pointer (some ⟨gw, 0, none⟩), .pointer (some ⟨gn, 0, none⟩), .pointer (some ⟨gr, 0, none⟩)])) (x y : Nat) (hx : x < n) (hy : y < n) (hw : w ≤ 100000) (hn : n ≤ 100000) :
    Calls Try.prog 33 #[.int .i64 (x : Int), .int .i64 (y : Int), .pointer (some ⟨gr, 0, none⟩), .pointer (some ⟨gs, 0, none⟩)] W fun e w' => e = .returned (.int .i64 (if cmpI (r x) (r y) = 0 then cmpZ (sec n w r x) (sec n w r y) else cmpI (r x) (r y))) ∧ Grew W w' := by
  have b2 := h.br
  have a1 := h.bc x hx
  have a2 := h.bc y hy
  have CF := Lib.hid (fun V => compare_nat (r x) (r y) V)
  have CS := Lib.hid (fun V => compare_z (sec n w r x) (sec n w r y) V)
  have SX := Lib.hid (fun V (hV : SufBox V n w r gw gn gr rb) => second_any V n w r gw gn gr rb hV x (by omega) hw hn)
  have SY := Lib.hid (fun V (hV : SufBox V n w r gw gn gr rb) => second_any V n w r gw gn gr rb hV y (by omega) hw hn)
  have i0 : (0 : Int) ≤ (x : Int) := by omega
  have i1 : (x : Int) < (n : Int) := by omega
  have i2 : (0 : Int) ≤ (y : Int) := by omega
  have i3 : (y : Int) < (n : Int) := by omega
  obtain ⟨rr, hrr⟩ : ∃ rr : Int, (if cmpI (r x) (r y) = 0 then cmpZ (sec n w r x) (sec n w r y) else cmpI (r x) (r y)) = rr := ⟨_, rfl⟩
  rw [hrr]
  have HG := Lib.hid hrr
  clear hrr
  generalize cmpI (r x) (r y) = r1 at *
  generalize cmpZ (sec n w r x) (sec n w r y) = r2 at *
  generalize hsx : sec n w r x = sx at *
  generalize hsy : sec n w r y = sy at *
  generalize hfx : r x = fx at *
  generalize hfy : r y = fy at *
  have HB := Lib.hid h
  clear h hsx hsy hfx hfy
  have eg : ∀ args w, (callFunc 32 args).run Try.prog w = .ok (.enter 32 args) w := fun args w => by kernel_rfl
  go_enter Try.func33, Try.ntmps33
  go_wp2_with fail
  refine wp_region_ph [([0, 1, 2, 3, 4, 5, 6, 7, 8, 9, 10, 11, 12, 13, 14, 15], [16, 17]), ([18], [])] (fun w' => Grew W w') (by kernel_rfl) (by kernel_rfl) (fun _ _ h1 h2 => h1.trans h2) (Grew.refl _) ?_
  intro ι FF hne hFF W0 hW0 hI0
  have p1 : ∀ i, (FF i).cell? ⟨gr, 0, none⟩ = some (.slice (some ⟨rb, 0, none⟩) n n) := fun i => ((hFF i).below.cell (p := ⟨gr, 0, none⟩) (block_lt_of_cell b2)).trans b2
  have p2 : ∀ i, (FF i).cell? ⟨gs, 0, none⟩ = some (.func (.func 32) #[] #[.pointer (some ⟨gw, 0, none⟩), .pointer (some ⟨gn, 0, none⟩), .pointer (some ⟨gr, 0, none⟩)]) := fun i => ((hFF i).below.cell (p := ⟨gs, 0, none⟩) (block_lt_of_cell hs)).trans hs
  have q1 : ∀ i, (FF i).cell? ⟨rb, x, none⟩ = some (.int .i64 (fx : Int)) := fun i => ((hFF i).below.cell (p := ⟨rb, x, none⟩) (block_lt_of_cell a1)).trans a1
  have q2 : ∀ i, (FF i).cell? ⟨rb, y, none⟩ = some (.int .i64 (fy : Int)) := fun i => ((hFF i).below.cell (p := ⟨rb, y, none⟩) (block_lt_of_cell a2)).trans a2
  (refine wpPh_cons ?_; simp only [pickOps, List.getElem?_cons_succ, List.getElem?_cons_zero])
  repeat (refine wpB_step (fun K hK => ?_); go_simp; first | (refine hK _ ?_; clear hK K) | (apply Exists.intro; refine ⟨fun _ => ?_, hK _ ?_⟩; (first | ((with_reducible refine (CF.out _).mono ?_); rintro e w1 ⟨rfl, rfl⟩; exact ⟨rfl, Grew.refl _⟩) | ((with_reducible refine (CS.out _).mono ?_); rintro e w1 ⟨rfl, rfl⟩; exact ⟨rfl, Grew.refl _⟩) | ((with_reducible refine (SX.out _ (HB.out.later (hFF _).below)).mono ?_); rintro e w1 ⟨rfl, rfl⟩; exact ⟨rfl, Grew.refl _⟩) | ((with_reducible refine (SY.out _ (HB.out.later (hFF _).below)).mono ?_); rintro e w1 ⟨rfl, rfl⟩; exact ⟨rfl, Grew.refl _⟩)); clear hK K))
  refine wpB_nil ?_
  intro w3 hw3 hI3
  have HI3 := Lib.hid hI3
  clear p1 p2 q1 q2 hw3 hI3 hFF
  refine wpRB_step (fun K hK => ?_)
  go_simp
  refine hK _ _ ⟨HI3.out.trans (Grew.alloc _ _), ?_⟩
  clear hK K
  intro w4 hw4 hI4
  have B4 := (Blk.new w3 3 #[.int .i64 r1, .int .i64 r2]).below hw4.below (by simp)
  have HI4 := Lib.hid hI4
  have z0 : w4.cell? ⟨w3.heap.size, 0, none⟩ = some (.int .i64 r1) := B4.cell 0
  have z1 : w4.cell? ⟨w3.heap.size, 1, none⟩ = some (.int .i64 r2) := B4.cell 1
  clear hw4 hI4
  refine wpRB_step (fun K hK => ?_)
  go_simp
  refine (or_two w3.heap.size r1 r2 w4 z0 z1).mono ?_
  rintro e w5 ⟨rfl, rfl⟩
  rw [HG.out]
  refine ⟨_, rfl, hK _ _ ⟨HI4.out, ?_⟩⟩
  clear hK K z0 z1 B4
  intro w6 hw6 hI6
  have HI6 := Lib.hid hI6
  clear hw6 hI6
  refine wpRB_nil ?_
  (refine wpPh_cons ?_; simp only [pickOps, List.getElem?_cons_succ, List.getElem?_cons_zero])
  repeat (refine wpB_step (fun K hK => ?_); go_simp; first | (refine hK _ ?_; clear hK K) | (apply Exists.intro; refine ⟨fun _ => ?_, hK _ ?_⟩; (fail); clear hK K))
  refine wpB_nil ?_
  intro w7 hw7 hI7
  have HI7 := Lib.hid hI7
  clear hw7 hI7
  refine wpRB_nil ?_
  refine wpPh_nil ?_
  go_wp2_with fail
  go_ret
  exact ⟨rfl, HI7.out⟩
end Go.Proofs.Ytacjckocjngfoaa.Gr
