/-
  The walk of the function by which marks are ordered; the order by place and side.
-/
import Derived.Test.YtpjpckhmjonehaaCmp
import Derived.Test.YtpjpckhmjonehaaOrdM
import Derived.Test.YtpjpckhmjonehaaCRow
import Derived.StillTailTactics
import Derived.BigQuiet
namespace Go.Proofs.Ytpjpckhmjonehaa.Gr
open Go.RowKit Go.Sort
set_option linter.unusedVariables false
set_option linter.unusedSimpArgs false

set_option maxRecDepth 100000 in
theorem or_two (g : Nat) (x y : Int) (w : World) (h0 : w.cell? ⟨g, 0, none⟩ = some (.int .i64 x)) (h1 : w.cell? ⟨g, 1, none⟩ = some (.int .i64 y)) : Calls Try.prog 10 #[.slice (some ⟨g, 0, none⟩) 2 2] w fun e w' => e = .returned (.int .i64 (if x = 0 then y else x)) ∧ w' = w := by
  by_cases hx : x = 0
  · subst hx
    rw [if_pos rfl]
    by_cases hy : y = 0
    · subst hy
      go_enter Try.func10, Try.ntmps10
      go_wp2_with fail
      refine wp_loop_rounds 3 ?_
      rw [rounds_succ]
      go_wp2_with fail
      rw [rounds_succ]
      go_wp2_with fail
      rw [rounds_succ]
      go_wp2_with fail
      go_ret
      exact ⟨rfl, rfl⟩
    · have hy' : (y == 0) = false := by simpa using hy
      go_enter Try.func10, Try.ntmps10
      go_wp2_with fail
      refine wp_loop_rounds 3 ?_
      rw [rounds_succ]
      go_wp2_with fail
      rw [rounds_succ]
      go_wp2_with fail
      go_ret
      exact ⟨rfl, rfl⟩
  · rw [if_neg hx]
    have hx' : (x == 0) = false := by simpa using hx
    go_enter Try.func10, Try.ntmps10
    go_wp2_with fail
    refine wp_loop_rounds 3 ?_
    rw [rounds_succ]
    go_wp2_with fail
    go_ret
    exact ⟨rfl, rfl⟩
/-- By places, and by sides where they are one. -/
def mcf {N : Nat} (P S : Fin N → Nat) (x y : Fin N) : Int := if cmpI (P x) (P y) = 0 then cmpI (S x) (S y) else cmpI (P x) (P y)
theorem mcf_lt {N : Nat} (P S : Fin N → Nat) (x y : Fin N) : ltOf (mcf P S) x y = true ↔ P x < P y ∨ P x = P y ∧ S x < S y := by
  unfold ltOf mcf
  rw [decide_eq_true_eq]
  by_cases h : cmpI (P x) (P y) = 0
  · rw [if_pos h, cmpI_neg]
    have := (cmpI_zero _ _).1 h
    omega
  · rw [if_neg h, cmpI_neg]
    have : ¬ P x = P y := fun e => h ((cmpI_zero _ _).2 e)
    omega
theorem mcf_swo {N : Nat} (P S : Fin N → Nat) : SWO (ltOf (mcf P S)) := by
  have e2 : ∀ x y, ltOf (mcf P S) x y = false ↔ ¬ (P x < P y ∨ P x = P y ∧ S x < S y) := fun x y => by rw [← mcf_lt]; simp
  refine ⟨fun x => (e2 x x).2 (by omega), fun x y z h1 h2 => ?_, fun x y z h1 h2 => ?_⟩
  · rw [mcf_lt] at *; omega
  · rw [e2] at *; omega
set_option maxRecDepth 100000 in
set_option maxHeartbeats 2000000 in
theorem ordCmp {N : Nat} (P : Fin N → Nat) (B : Fin N → Bool) (x y : Fin N) (W : World) (gm gs mb mo mm cm : Nat) (h1 : W.cell? ⟨gm, 0, none⟩ = some (.slice (some ⟨mb, mo, none⟩) N cm)) (h2 : W.cell? ⟨gs, 0, none⟩ = some (.map (some mm)))
    (hP : ∀ i : Fin N, W.cell? ⟨mb, mo + i.val * 2, none⟩ = some (.int .i64 (P i : Int)) ∧ W.cell? ⟨mb, mo + i.val * 2 + 1, none⟩ = some (.bool (B i))) (hS : W.heap[mm]? = some sideObj) :
    Calls Try.prog 9 #[.int .i64 (x.val : Int), .int .i64 (y.val : Int), .pointer (some ⟨gm, 0, none⟩), .pointer (some ⟨gs, 0, none⟩)] W fun e w' => e = .returned (.int .i64 (mcf P (fun i => if B i then 1 else 0) x y)) ∧ Grew W w' := by
  obtain ⟨a1, a3⟩ := hP x
  obtain ⟨a2, a4⟩ := hP y
  have CF := Lib.hid (fun V => compare_nat (P x) (P y) V)
  have CS := Lib.hid (fun V => compare_nat (if B x then 1 else 0) (if B y then 1 else 0) V)
  have HG : Hid (mcf P (fun i => if B i then 1 else 0) x y = (if cmpI (P x) (P y) = 0 then cmpI (if B x then 1 else 0) (if B y then 1 else 0) else cmpI (P x) (P y))) := Lib.hid rfl
  have LX := Lib.hid (fun V (h : V.heap[mm]? = some sideObj) => side_look V mm h (B x))
  have LY := Lib.hid (fun V (h : V.heap[mm]? = some sideObj) => side_look V mm h (B y))
  have cx : Hid ((if B x then (1 : Int) else 0) = ((if B x then 1 else 0 : Nat) : Int)) := Lib.hid (by split <;> rfl)
  have cy : Hid ((if B y then (1 : Int) else 0) = ((if B y then 1 else 0 : Nat) : Int)) := Lib.hid (by split <;> rfl)
  rw [cx.out] at LX
  rw [cy.out] at LY
  clear cx cy
  have i0 : (0 : Int) ≤ (x.val : Int) := by omega
  have i1 : (x.val : Int) < (N : Int) := by have := x.isLt; omega
  have i2 : (0 : Int) ≤ (y.val : Int) := by omega
  have i3 : (y.val : Int) < (N : Int) := by have := y.isLt; omega
  generalize mcf P (fun i => if B i then 1 else 0) x y = r at *
  generalize cmpI (P x) (P y) = r1 at *
  generalize cmpI (if B x then 1 else 0) (if B y then 1 else 0) = r2 at *
  generalize (if B x then 1 else 0 : Nat) = sx at *
  generalize (if B y then 1 else 0 : Nat) = sy at *
  generalize P x = px at *
  generalize P y = py at *
  generalize B x = bx at *
  generalize B y = by' at *
  generalize x.val = xv at *
  generalize y.val = yv at *
  have l1 := block_lt_of_cell h1
  have l2 := block_lt_of_cell h2
  have l3 := block_lt_of_cell a1
  have l4 : mm < W.heap.size := (Array.getElem?_eq_some_iff.1 hS).1
  have HSS := Lib.hid hS
  clear hP hS
  go_enter Try.func9, Try.ntmps9
  go_wp2_with fail
  refine wp_region_ph [([0, 1, 2, 3, 4, 5, 6, 7, 8, 9, 10, 11, 12, 13, 14, 15, 16, 17, 18, 19, 20, 21, 22, 23, 24, 25], [26, 27]), ([28], [])] (fun w' => Grew W w') (by kernel_rfl) (by kernel_rfl) (fun _ _ h1 h2 => h1.trans h2) (Grew.refl _) ?_
  intro ι FF hne hFF W0 hW0 hI0
  have p1 : ∀ i, (FF i).cell? ⟨gm, 0, none⟩ = some (.slice (some ⟨mb, mo, none⟩) N cm) := fun i => ((hFF i).below.cell (p := ⟨gm, 0, none⟩) l1).trans h1
  have p2 : ∀ i, (FF i).cell? ⟨gs, 0, none⟩ = some (.map (some mm)) := fun i => ((hFF i).below.cell (p := ⟨gs, 0, none⟩) l2).trans h2
  have q1 : ∀ i, (FF i).cell? ⟨mb, mo + xv * 2, none⟩ = some (.int .i64 (px : Int)) := fun i => ((hFF i).below.cell (p := ⟨mb, mo + xv * 2, none⟩) l3).trans a1
  have q2 : ∀ i, (FF i).cell? ⟨mb, mo + yv * 2, none⟩ = some (.int .i64 (py : Int)) := fun i => ((hFF i).below.cell (p := ⟨mb, mo + yv * 2, none⟩) l3).trans a2
  have q3 : ∀ i, (FF i).cell? ⟨mb, mo + xv * 2 + 1, none⟩ = some (.bool bx) := fun i => ((hFF i).below.cell (p := ⟨mb, mo + xv * 2 + 1, none⟩) l3).trans a3
  have q4 : ∀ i, (FF i).cell? ⟨mb, mo + yv * 2 + 1, none⟩ = some (.bool by') := fun i => ((hFF i).below.cell (p := ⟨mb, mo + yv * 2 + 1, none⟩) l3).trans a4
  have s1 : ∀ i, (Instr.lookup 35 (.map (some mm)) (.bool bx) false).run Try.prog (FF i) = .ok (.int .i64 (sx : Int)) (FF i) := fun i => LX.out _ (((hFF i).below.block mm l4).trans HSS.out)
  have s2 : ∀ i, (Instr.lookup 35 (.map (some mm)) (.bool by') false).run Try.prog (FF i) = .ok (.int .i64 (sy : Int)) (FF i) := fun i => LY.out _ (((hFF i).below.block mm l4).trans HSS.out)
  clear a1 a2 a3 a4 h1 h2
  (refine wpPh_cons ?_; simp only [pickOps, List.getElem?_cons_succ, List.getElem?_cons_zero])
  repeat (refine wpB_step (fun K hK => ?_); go_simp; first | (refine hK _ ?_; clear hK K) | (apply Exists.intro; refine ⟨fun _ => ?_, hK _ ?_⟩; (first | ((with_reducible refine (CF.out _).mono ?_); rintro e w1 ⟨rfl, rfl⟩; exact ⟨rfl, Grew.refl _⟩) | ((with_reducible refine (CS.out _).mono ?_); rintro e w1 ⟨rfl, rfl⟩; exact ⟨rfl, Grew.refl _⟩)); clear hK K))
  refine wpB_nil ?_
  intro w3 hw3 hI3
  have HI3 := Lib.hid hI3
  clear p1 p2 q1 q2 q3 q4 s1 s2 hw3 hI3 hFF
  refine wpRB_step (fun K hK => ?_)
  go_simp
  refine hK _ _ ⟨HI3.out.trans (Grew.alloc _ _), ?_⟩
  clear hK K
  intro w4 hw4 hI4
  have B4 := (Blk.new w3 3 #[.int .i64 r1, .int .i64 r2]).below hw4.below (by simp)
  have HI4 := Lib.hid hI4
  have z0 : w4.cell? ⟨w3.heap.size, 0, none⟩ = some (.int .i64 r1) := B4.cell 0
  have z1 : w4.cell? ⟨w3.heap.size, 1, none⟩ = some (.int .i64 r2) := B4.cell 1
  clear hw4 hI4
  refine wpRB_step (fun K hK => ?_)
  go_simp
  refine (or_two w3.heap.size r1 r2 w4 z0 z1).mono ?_
  rintro e w5 ⟨rfl, rfl⟩
  rw [← HG.out]
  refine ⟨_, rfl, hK _ _ ⟨HI4.out, ?_⟩⟩
  clear hK K z0 z1 B4
  intro w6 hw6 hI6
  have HI6 := Lib.hid hI6
  clear hw6 hI6
  refine wpRB_nil ?_
  (refine wpPh_cons ?_; simp only [pickOps, List.getElem?_cons_succ, List.getElem?_cons_zero])
  repeat (refine wpB_step (fun K hK => ?_); go_simp; first | (refine hK _ ?_; clear hK K) | (apply Exists.intro; refine ⟨fun _ => ?_, hK _ ?_⟩; (fail); clear hK K))
  refine wpB_nil ?_
  intro w7 hw7 hI7
  have HI7 := Lib.hid hI7
  clear hw7 hI7
  refine wpRB_nil ?_
  refine wpPh_nil ?_
  go_wp2_with fail
  go_ret
  exact ⟨rfl, HI7.out⟩
end Go.Proofs.Ytpjpckhmjonehaa.Gr
