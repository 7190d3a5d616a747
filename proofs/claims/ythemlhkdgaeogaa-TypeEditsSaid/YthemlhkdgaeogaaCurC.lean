/-
  The walks of cursors.lo and hi, cmp.Compare and cmp.Or at ints, and of the function by which cursors are sorted.
-/
import Derived.Test.YthemlhkdgaeogaaGr
import Derived.Test.YthemlhkdgaeogaaCurP
import Derived.Test.YthemlhkdgaeogaaSpan
import Derived.LoopN
namespace Go.Proofs.Ythemlhkdgaeogaa.Gr
open Go.RowKit Go.Shelf Go.Sort
set_option linter.unusedVariables false
set_option linter.unusedSimpArgs false

theorem clo_any (c : Sp) (w : World) : Calls Try.prog 41 #[spv c] w fun e w' => e = .returned (.int .i64 (clo c : Int)) ∧ Grew w w' := by
  obtain ⟨a, b⟩ := c
  unfold spv clo
  simp only
  have hm : min (a : Int) (b : Int) = ((if a ≤ b then a else b : Nat) : Int) := by split <;> omega
  rw [← hm]
  clear hm
  go_enter Try.func41, Try.ntmps41
  go_wp2_with fail
  go_ret
  exact ⟨rfl, Grew.alloc _ _⟩
theorem chi_any (c : Sp) (w : World) : Calls Try.prog 42 #[spv c] w fun e w' => e = .returned (.int .i64 (chi c : Int)) ∧ Grew w w' := by
  obtain ⟨a, b⟩ := c
  unfold spv chi
  simp only
  have hm : max (a : Int) (b : Int) = ((if a ≤ b then b else a : Nat) : Int) := by split <;> omega
  rw [← hm]
  clear hm
  go_enter Try.func42, Try.ntmps42
  go_wp2_with fail
  go_ret
  exact ⟨rfl, Grew.alloc _ _⟩
theorem isNaN_int (x : Int) (w : World) : Calls Try.prog 71 #[.int .i64 x] w fun e w' => e = .returned (.bool false) ∧ w' = w := by
  go_enter Try.func71, Try.ntmps71
  go_wp2_with fail
  go_ret
  exact ⟨rfl, rfl⟩
theorem compare_nat (x y : Nat) (w : World) : Calls Try.prog 50 #[.int .i64 (x : Int), .int .i64 (y : Int)] w fun e w' => e = .returned (.int .i64 (cmpI x y)) ∧ w = w' := by
  unfold cmpI
  by_cases q : x < y
  · have q' : (x : Int) < (y : Int) := by omega
    rw [if_pos q]
    clear q
    go_enter Try.func50, Try.ntmps50
    go_wp2_with fail
    refine (isNaN_int _ _).mono ?_
    rintro e w1 ⟨rfl, rfl⟩
    go_wp2_with fail
    refine (isNaN_int _ _).mono ?_
    rintro e w1 ⟨rfl, rfl⟩
    go_wp2_with fail
    go_ret
    exact ⟨rfl, rfl⟩
  · have q' : ¬ (x : Int) < (y : Int) := by omega
    rw [if_neg q]
    by_cases r : y < x
    · have r' : (y : Int) < (x : Int) := by omega
      rw [if_pos r]
      clear q r
      go_enter Try.func50, Try.ntmps50
      go_wp2_with fail
      refine (isNaN_int _ _).mono ?_
      rintro e w1 ⟨rfl, rfl⟩
      go_wp2_with fail
      refine (isNaN_int _ _).mono ?_
      rintro e w1 ⟨rfl, rfl⟩
      go_wp2_with fail
      go_ret
      exact ⟨rfl, rfl⟩
    · have r' : ¬ (y : Int) < (x : Int) := by omega
      rw [if_neg r]
      clear q r
      go_enter Try.func50, Try.ntmps50
      go_wp2_with fail
      refine (isNaN_int _ _).mono ?_
      rintro e w1 ⟨rfl, rfl⟩
      go_wp2_with fail
      refine (isNaN_int _ _).mono ?_
      rintro e w1 ⟨rfl, rfl⟩
      go_wp2_with fail
      go_ret
      exact ⟨rfl, rfl⟩
set_option maxRecDepth 100000 in
theorem or_two (g : Nat) (x y : Int) (w : World) (h0 : w.cell? ⟨g, 0, none⟩ = some (.int .i64 x)) (h1 : w.cell? ⟨g, 1, none⟩ = some (.int .i64 y)) : Calls Try.prog 49 #[.slice (some ⟨g, 0, none⟩) 2 2] w fun e w' => e = .returned (.int .i64 (if x = 0 then y else x)) ∧ w' = w := by
  by_cases hx : x = 0
  · subst hx
    rw [if_pos rfl]
    by_cases hy : y = 0
    · subst hy
      go_enter Try.func49, Try.ntmps49
      go_wp2_with fail
      refine wp_loop_rounds 3 ?_
      rw [rounds_succ]
      go_wp2_with fail
      rw [rounds_succ]
      go_wp2_with fail
      rw [rounds_succ]
      go_wp2_with fail
      go_ret
      exact ⟨rfl, rfl⟩
    · have hy' : (y == 0) = false := by simpa using hy
      go_enter Try.func49, Try.ntmps49
      go_wp2_with fail
      refine wp_loop_rounds 3 ?_
      rw [rounds_succ]
      go_wp2_with fail
      rw [rounds_succ]
      go_wp2_with fail
      go_ret
      exact ⟨rfl, rfl⟩
  · rw [if_neg hx]
    have hx' : (x == 0) = false := by simpa using hx
    go_enter Try.func49, Try.ntmps49
    go_wp2_with fail
    refine wp_loop_rounds 3 ?_
    rw [rounds_succ]
    go_wp2_with fail
    go_ret
    exact ⟨rfl, rfl⟩
theorem ccf_or (a b : Sp) : (if cmpI (clo a) (clo b) = 0 then cmpI (chi a) (chi b) else cmpI (clo a) (clo b)) = ccf a b := by
  unfold ccf
  by_cases q : clo a = clo b
  · rw [if_pos q, if_pos (by rw [q]; unfold cmpI; rw [if_neg (Nat.lt_irrefl _), if_neg (Nat.lt_irrefl _)])]
  · rw [if_neg q, if_neg]
    unfold cmpI
    split
    · decide
    · split
      · decide
      · omega
set_option maxRecDepth 100000 in
set_option maxHeartbeats 2000000 in
theorem curCmp (x y : Sp) (w : World) : Calls Try.prog 59 #[spv x, spv y] w fun e w' => e = .returned (.int .i64 (ccf x y)) ∧ Grew w w' := by
  have LX := Lib.hid (fun W => clo_any x W)
  have LY := Lib.hid (fun W => clo_any y W)
  have HX := Lib.hid (fun W => chi_any x W)
  have HY := Lib.hid (fun W => chi_any y W)
  have CL := Lib.hid (fun W => compare_nat (clo x) (clo y) W)
  have CH := Lib.hid (fun W => compare_nat (chi x) (chi y) W)
  have HOR := Lib.hid (ccf_or x y)
  have BX := Blk.new w 46 #[.int .i64 (x.lo : Int), .int .i64 (x.hi : Int)]
  have BX2 := BX.below ((Below.refl _ _).alloc (Nat.le_refl _) (.cells #[.int .i64 (y.lo : Int), .int .i64 (y.hi : Int)] 46)) (by simp)
  have BY := Blk.new (w.alloc (.cells #[.int .i64 (x.lo : Int), .int .i64 (x.hi : Int)] 46)) 46 #[.int .i64 (y.lo : Int), .int .i64 (y.hi : Int)]
  have HG := Lib.hid ((Grew.alloc w (.cells #[.int .i64 (x.lo : Int), .int .i64 (x.hi : Int)] 46)).trans (Grew.alloc _ (.cells #[.int .i64 (y.lo : Int), .int .i64 (y.hi : Int)] 46)))
  unfold spv at *
  generalize ccf x y = r at *
  generalize cmpI (clo x) (clo y) = c1 at *
  generalize cmpI (chi x) (chi y) = c2 at *
  generalize clo x = lx at *
  generalize clo y = ly at *
  generalize chi x = hx' at *
  generalize chi y = hy' at *
  simp only [World.size_alloc] at BY
  go_enter Try.func59, Try.ntmps59
  go_wp2_with fail
  generalize ((w.alloc (.cells #[.int .i64 (x.lo : Int), .int .i64 (x.hi : Int)] 46)).alloc (.cells #[.int .i64 (y.lo : Int), .int .i64 (y.hi : Int)] 46)) = W at *
  refine wp_region_ph [([0, 1, 2, 3, 4, 5, 6, 7, 8, 9], [10, 11]), ([12], [])] (fun w' => Grew W w') (by kernel_rfl) (by kernel_rfl) (fun _ _ h1 h2 => h1.trans h2) (Grew.refl _) ?_
  intro ι F hne hF W0 hW0 hI0
  have x0 : ∀ i, (F i).cell? ⟨w.heap.size, 0, none⟩ = some (.int .i64 (x.lo : Int)) := fun i => (BX2.below (hF i).below BX2.lt).cell 0
  have x1 : ∀ i, (F i).cell? ⟨w.heap.size, 1, none⟩ = some (.int .i64 (x.hi : Int)) := fun i => (BX2.below (hF i).below BX2.lt).cell 1
  have y0 : ∀ i, (F i).cell? ⟨w.heap.size + 1, 0, none⟩ = some (.int .i64 (y.lo : Int)) := fun i => (BY.below (hF i).below BY.lt).cell 0
  have y1 : ∀ i, (F i).cell? ⟨w.heap.size + 1, 1, none⟩ = some (.int .i64 (y.hi : Int)) := fun i => (BY.below (hF i).below BY.lt).cell 1
  (refine wpPh_cons ?_; simp only [pickOps, List.getElem?_cons_succ, List.getElem?_cons_zero])
  repeat (refine wpB_step (fun K hK => ?_); go_simp; first | (refine hK _ ?_; clear hK K) | (apply Exists.intro; refine ⟨fun _ => ?_, hK _ ?_⟩; (first | ((with_reducible refine (LX.out _).mono ?_); rintro e w1 ⟨rfl, hb⟩; exact ⟨rfl, hb⟩) | ((with_reducible refine (LY.out _).mono ?_); rintro e w1 ⟨rfl, hb⟩; exact ⟨rfl, hb⟩) | ((with_reducible refine (HX.out _).mono ?_); rintro e w1 ⟨rfl, hb⟩; exact ⟨rfl, hb⟩) | ((with_reducible refine (HY.out _).mono ?_); rintro e w1 ⟨rfl, hb⟩; exact ⟨rfl, hb⟩) | ((with_reducible refine (CL.out _).mono ?_); rintro e w1 ⟨rfl, rfl⟩; exact ⟨rfl, Grew.refl _⟩) | ((with_reducible refine (CH.out _).mono ?_); rintro e w1 ⟨rfl, rfl⟩; exact ⟨rfl, Grew.refl _⟩)); clear hK K))
  refine wpB_nil ?_
  intro w3 hw3 hI3
  have HI3 := Lib.hid hI3
  clear x0 x1 y0 y1 hw3 hI3 hF
  refine wpRB_step (fun K hK => ?_)
  go_simp
  refine hK _ _ ⟨HI3.out.trans (Grew.alloc _ _), ?_⟩
  clear hK K
  intro w4 hw4 hI4
  have B4 := (Blk.new w3 3 #[.int .i64 c1, .int .i64 c2]).below hw4.below (by simp)
  have HI4 := Lib.hid hI4
  have z0 : w4.cell? ⟨w3.heap.size, 0, none⟩ = some (.int .i64 c1) := B4.cell 0
  have z1 : w4.cell? ⟨w3.heap.size, 1, none⟩ = some (.int .i64 c2) := B4.cell 1
  clear hw4 hI4
  refine wpRB_step (fun K hK => ?_)
  go_simp
  refine (or_two w3.heap.size c1 c2 w4 z0 z1).mono ?_
  rintro e w5 ⟨rfl, rfl⟩
  rw [HOR.out]
  refine ⟨_, rfl, hK _ _ ⟨HI4.out, ?_⟩⟩
  clear hK K z0 z1 B4
  intro w6 hw6 hI6
  have HI6 := Lib.hid hI6
  clear hw6 hI6
  refine wpRB_nil ?_
  (refine wpPh_cons ?_; simp only [pickOps, List.getElem?_cons_succ, List.getElem?_cons_zero])
  repeat (refine wpB_step (fun K hK => ?_); go_simp; first | (refine hK _ ?_; clear hK K) | (apply Exists.intro; refine ⟨fun _ => ?_, hK _ ?_⟩; (fail); clear hK K))
  refine wpB_nil ?_
  intro w7 hw7 hI7
  have HI7 := Lib.hid hI7
  clear hw7 hI7
  refine wpRB_nil ?_
  refine wpPh_nil ?_
  go_wp2_with fail
  go_ret
  exact ⟨rfl, HG.out.trans HI7.out⟩
end Go.Proofs.Ythemlhkdgaeogaa.Gr
