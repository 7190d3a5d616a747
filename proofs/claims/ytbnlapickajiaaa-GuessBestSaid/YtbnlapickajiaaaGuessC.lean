/-
  The walk of the function by which words are guessed.
-/
import Derived.Test.YtbnlapickajiaaaCmp
import Derived.StillTailTactics
namespace Go.Proofs.Ytbnlapickajiaaa.Gr
open Go.RowKit Go.Sort
set_option linter.unusedVariables false
set_option linter.unusedSimpArgs false

set_option maxRecDepth 100000 in
set_option maxHeartbeats 2000000 in
theorem guessCmp {N : Nat} (F : Fin N → Nat) (S : Fin N → ByteArray) (x y : Fin N) (W : World) (gf gw fb wb wo cf cw : Nat) (h1 : W.cell? ⟨gf, 0, none⟩ = some (.slice (some ⟨fb, 0, none⟩) N cf)) (h2 : W.cell? ⟨gw, 0, none⟩ = some (.slice (some ⟨wb, wo, none⟩) N cw))
    (hF : ∀ i : Fin N, W.cell? ⟨fb, i.val, none⟩ = some (.int .i64 (F i : Int))) (hS : ∀ i : Fin N, W.cell? ⟨wb, wo + i.val, none⟩ = some (.string (S i))) :
    Calls Try.prog 20 #[.int .i64 (x.val : Int), .int .i64 (y.val : Int), .pointer (some ⟨gf, 0, none⟩), .pointer (some ⟨gw, 0, none⟩)] W fun e w' => e = .returned (.int .i64 (gcf F (fun i => (S i).toList) x y)) ∧ Grew W w' := by
  have a1 := hF x
  have a2 := hF y
  have a3 := hS x
  have a4 := hS y
  have CF := Lib.hid (fun V => compare_nat (F x) (F y) V)
  have CS := Lib.hid (fun V => compare_str (S x) (S y) V)
  have CN := Lib.hid (fun V => compare_nat x.val y.val V)
  have HG : Hid (gcf F (fun i => (S i).toList) x y = (if cmpI (F x) (F y) = 0 then (if cmpW (S x).toList (S y).toList = 0 then cmpI x.val y.val else cmpW (S x).toList (S y).toList) else cmpI (F x) (F y))) := Lib.hid rfl
  have i0 : (0 : Int) ≤ (x.val : Int) := by omega
  have i1 : (x.val : Int) < (N : Int) := by have := x.isLt; omega
  have i2 : (0 : Int) ≤ (y.val : Int) := by omega
  have i3 : (y.val : Int) < (N : Int) := by have := y.isLt; omega
  generalize gcf F (fun i => (S i).toList) x y = r at *
  generalize cmpI (F x) (F y) = r1 at *
  generalize cmpW (S x).toList (S y).toList = r2 at *
  generalize cmpI x.val y.val = r3 at *
  generalize F x = fx at *
  generalize F y = fy at *
  generalize S x = sx at *
  generalize S y = sy at *
  generalize x.val = xv at *
  generalize y.val = yv at *
  have l1 := block_lt_of_cell h1
  have l2 := block_lt_of_cell h2
  have l3 := block_lt_of_cell a1
  have l4 := block_lt_of_cell a3
  clear hF hS
  go_enter Try.func20, Try.ntmps20
  go_wp2_with fail
  refine wp_region_ph [([0, 1, 2, 3, 4, 5, 6, 7, 8, 9, 10, 11, 12, 13, 14, 15, 16, 17, 18, 19, 20], [21, 22]), ([23], [])] (fun w' => Grew W w') (by kernel_rfl) (by kernel_rfl) (fun _ _ h1 h2 => h1.trans h2) (Grew.refl _) ?_
  intro ι FF hne hFF W0 hW0 hI0
  have p1 : ∀ i, (FF i).cell? ⟨gf, 0, none⟩ = some (.slice (some ⟨fb, 0, none⟩) N cf) := fun i => ((hFF i).below.cell (p := ⟨gf, 0, none⟩) l1).trans h1
  have p2 : ∀ i, (FF i).cell? ⟨gw, 0, none⟩ = some (.slice (some ⟨wb, wo, none⟩) N cw) := fun i => ((hFF i).below.cell (p := ⟨gw, 0, none⟩) l2).trans h2
  have q1 : ∀ i, (FF i).cell? ⟨fb, xv, none⟩ = some (.int .i64 (fx : Int)) := fun i => ((hFF i).below.cell (p := ⟨fb, xv, none⟩) l3).trans a1
  have q2 : ∀ i, (FF i).cell? ⟨fb, yv, none⟩ = some (.int .i64 (fy : Int)) := fun i => ((hFF i).below.cell (p := ⟨fb, yv, none⟩) l3).trans a2
  have q3 : ∀ i, (FF i).cell? ⟨wb, wo + xv, none⟩ = some (.string sx) := fun i => ((hFF i).below.cell (p := ⟨wb, wo + xv, none⟩) l4).trans a3
  have q4 : ∀ i, (FF i).cell? ⟨wb, wo + yv, none⟩ = some (.string sy) := fun i => ((hFF i).below.cell (p := ⟨wb, wo + yv, none⟩) l4).trans a4
  (refine wpPh_cons ?_; simp only [pickOps, List.getElem?_cons_succ, List.getElem?_cons_zero])
  repeat (refine wpB_step (fun K hK => ?_); go_simp; first | (refine hK _ ?_; clear hK K) | (apply Exists.intro; refine ⟨fun _ => ?_, hK _ ?_⟩; (first | ((with_reducible refine (CF.out _).mono ?_); rintro e w1 ⟨rfl, rfl⟩; exact ⟨rfl, Grew.refl _⟩) | ((with_reducible refine (CS.out _).mono ?_); rintro e w1 ⟨rfl, rfl⟩; exact ⟨rfl, Grew.refl _⟩) | ((with_reducible refine (CN.out _).mono ?_); rintro e w1 ⟨rfl, rfl⟩; exact ⟨rfl, Grew.refl _⟩)); clear hK K))
  refine wpB_nil ?_
  intro w3 hw3 hI3
  have HI3 := Lib.hid hI3
  clear p1 p2 q1 q2 q3 q4 hw3 hI3 hFF
  refine wpRB_step (fun K hK => ?_)
  go_simp
  refine hK _ _ ⟨HI3.out.trans (Grew.alloc _ _), ?_⟩
  clear hK K
  intro w4 hw4 hI4
  have B4 := (Blk.new w3 3 #[.int .i64 r1, .int .i64 r2, .int .i64 r3]).below hw4.below (by simp)
  have HI4 := Lib.hid hI4
  have z0 : w4.cell? ⟨w3.heap.size, 0, none⟩ = some (.int .i64 r1) := B4.cell 0
  have z1 : w4.cell? ⟨w3.heap.size, 1, none⟩ = some (.int .i64 r2) := B4.cell 1
  have z2 : w4.cell? ⟨w3.heap.size, 2, none⟩ = some (.int .i64 r3) := B4.cell 2
  clear hw4 hI4
  refine wpRB_step (fun K hK => ?_)
  go_simp
  refine (or_three w3.heap.size r1 r2 r3 w4 z0 z1 z2).mono ?_
  rintro e w5 ⟨rfl, rfl⟩
  rw [← HG.out]
  refine ⟨_, rfl, hK _ _ ⟨HI4.out, ?_⟩⟩
  clear hK K z0 z1 z2 B4
  intro w6 hw6 hI6
  have HI6 := Lib.hid hI6
  clear hw6 hI6
  refine wpRB_nil ?_
  (refine wpPh_cons ?_; simp only [pickOps, List.getElem?_cons_succ, List.getElem?_cons_zero])
  repeat (refine wpB_step (fun K hK => ?_); go_simp; first | (refine hK _ ?_; clear hK K) | (apply Exists.intro; refine ⟨fun _ => ?_, hK _ ?_⟩; (fail); clear hK K))
  refine wpB_nil ?_
  intro w7 hw7 hI7
  have HI7 := Lib.hid hI7
  clear hw7 hI7
  refine wpRB_nil ?_
  refine wpPh_nil ?_
  go_wp2_with fail
  go_ret
  exact ⟨rfl, HI7.out⟩
end Go.Proofs.Ytbnlapickajiaaa.Gr
