/-
  The walk of cursors.both: one cursor of two.
-/
import Derived.Test.YthemlhkdgaeogaaCurC
import Derived.Test.YthemlhkdgaeogaaReg
import Derived.Test.YthemlhkdgaeogaaOrdC
import Derived.BigQuiet
import Derived.Deep.QuietTactic
namespace Go.Proofs.Ythemlhkdgaeogaa
open Go.RowKit Go.Shelf
set_option linter.unusedVariables false
set_option linter.unusedSimpArgs false

set_option maxRecDepth 100000 in
set_option maxHeartbeats 2000000 in
theorem curBoth_any (a b : Sp) (w : World) : Calls Try.prog 60 #[spv a, spv b] w fun e w' => e = .returned (spv (both a b)) ∧ Below w.heap.size w w' := by
  have LA := Lib.hid (fun W => Gr.clo_any a W)
  have HA := Lib.hid (fun W => Gr.chi_any a W)
  have HB := Lib.hid (fun W => Gr.chi_any b W)
  have HR : Hid (both a b = if turned a b then ⟨max (chi a) (chi b), clo a⟩ else ⟨clo a, max (chi a) (chi b)⟩) := Lib.hid rfl
  have hT : turned a b = (decide (a.hi < a.lo) || (decide (a.lo = a.hi) && decide (b.hi < b.lo))) := rfl
  have HT := Lib.hid hT
  clear hT
  have BX := Blk.new w 46 #[.int .i64 (a.lo : Int), .int .i64 (a.hi : Int)]
  have BX2 := BX.below ((Below.refl _ _).alloc (Nat.le_refl _) (.cells #[.int .i64 (b.lo : Int), .int .i64 (b.hi : Int)] 46)) (by simp)
  have BX3 := BX2.below ((Below.refl _ _).alloc (Nat.le_refl _) (.cells #[.int .i64 0, .int .i64 0] 46)) (by simp; omega)
  have BY := Blk.new (w.alloc (.cells #[.int .i64 (a.lo : Int), .int .i64 (a.hi : Int)] 46)) 46 #[.int .i64 (b.lo : Int), .int .i64 (b.hi : Int)]
  have BY3 := BY.below ((Below.refl _ _).alloc (Nat.le_refl _) (.cells #[.int .i64 0, .int .i64 0] 46)) (by simp)
  have BZ := Blk.new ((w.alloc (.cells #[.int .i64 (a.lo : Int), .int .i64 (a.hi : Int)] 46)).alloc (.cells #[.int .i64 (b.lo : Int), .int .i64 (b.hi : Int)] 46)) 46 #[.int .i64 0, .int .i64 0]
  have HAL := Lib.hid ((((Below.refl w.heap.size w).alloc (Nat.le_refl _) (.cells #[.int .i64 (a.lo : Int), .int .i64 (a.hi : Int)] 46)).alloc (by simp) (.cells #[.int .i64 (b.lo : Int), .int .i64 (b.hi : Int)] 46)).alloc (by simp; omega) (.cells #[.int .i64 0, .int .i64 0] 46))
  unfold spv at *
  generalize clo a = la at *
  generalize chi a = ha at *
  generalize chi b = hb at *
  simp only [World.size_alloc] at BY3 BZ
  go_enter Try.func60, Try.ntmps60
  go_wp2_with fail
  generalize (((w.alloc (.cells #[.int .i64 (a.lo : Int), .int .i64 (a.hi : Int)] 46)).alloc (.cells #[.int .i64 (b.lo : Int), .int .i64 (b.hi : Int)] 46)).alloc (.cells #[.int .i64 0, .int .i64 0] 46)) = W at *
  clear BX BX2 BY
  refine wp_region_ph [([0, 1, 2, 3, 4, 5, 6, 7, 8], [])] (fun w' => Below W.heap.size W w') (by kernel_rfl) (by kernel_rfl) (fun _ _ h1 h2 => bstep h1 h2) (by repeat' (first | exact Below.refl _ _ | apply below_drewN)) ?_
  intro ι F hne hF W0 hW0 hI0
  have x0 : ∀ i, (F i).cell? ⟨w.heap.size, 0, none⟩ = some (.int .i64 (a.lo : Int)) := fun i => (BX3.below (hF i) BX3.lt).cell 0
  have x1 : ∀ i, (F i).cell? ⟨w.heap.size, 1, none⟩ = some (.int .i64 (a.hi : Int)) := fun i => (BX3.below (hF i) BX3.lt).cell 1
  have y0 : ∀ i, (F i).cell? ⟨w.heap.size + 1, 0, none⟩ = some (.int .i64 (b.lo : Int)) := fun i => (BY3.below (hF i) BY3.lt).cell 0
  have y1 : ∀ i, (F i).cell? ⟨w.heap.size + 1, 1, none⟩ = some (.int .i64 (b.hi : Int)) := fun i => (BY3.below (hF i) BY3.lt).cell 1
  (refine wpPh_cons ?_; simp only [pickOps, List.getElem?_cons_succ, List.getElem?_cons_zero])
  repeat (refine wpB_step (fun K hK => ?_); go_simp; first | (refine hK _ ?_; clear hK K) | (apply Exists.intro; refine ⟨fun _ => ?_, hK _ ?_⟩; (first | ((with_reducible refine (LA.out _).mono ?_); rintro e w1 ⟨rfl, hb⟩; exact ⟨rfl, hb.below⟩) | ((with_reducible refine (HA.out _).mono ?_); rintro e w1 ⟨rfl, hb⟩; exact ⟨rfl, hb.below⟩) | ((with_reducible refine (HB.out _).mono ?_); rintro e w1 ⟨rfl, hb⟩; exact ⟨rfl, hb.below⟩)); clear hK K))
  refine wpB_nil ?_
  intro w3 hw3 hI3
  have HI3 := Lib.hid hI3
  have BX4 := BX3.below hI3 BX3.lt
  have BY4 := BY3.below hI3 BY3.lt
  have BZ4 := BZ.below hI3 BZ.lt
  clear x0 x1 y0 y1 hw3 hI3 hF
  have x0 : w3.cell? ⟨w.heap.size, 0, none⟩ = some (.int .i64 (a.lo : Int)) := BX4.cell 0
  have x1 : w3.cell? ⟨w.heap.size, 1, none⟩ = some (.int .i64 (a.hi : Int)) := BX4.cell 1
  have y0 : w3.cell? ⟨w.heap.size + 1, 0, none⟩ = some (.int .i64 (b.lo : Int)) := BY4.cell 0
  have y1 : w3.cell? ⟨w.heap.size + 1, 1, none⟩ = some (.int .i64 (b.hi : Int)) := BY4.cell 1
  have zc := fun i => BZ4.cell i
  have zf := fun i => BZ4.frozen i
  refine wpRB_nil ?_
  refine wpPh_nil ?_
  have hm : max (ha : Int) (hb : Int) = ((max ha hb : Nat) : Int) := by omega
  rw [hm]
  generalize max ha hb = m at *
  by_cases q1 : a.hi < a.lo
  · have g1 : (a.hi : Int) < (a.lo : Int) := by omega
    have Q1 := Lib.hid q1
    clear q1
    go_wp2_with fail
    have BQ := (BZ4.set_ 0 (.int .i64 (m : Int))).set_ 1 (.int .i64 (la : Int))
    have Z0 : ((w3.setCell ⟨w.heap.size + 1 + 1, 0, none⟩ (.int .i64 (m : Int))).setCell ⟨w.heap.size + 1 + 1, 1, none⟩ (.int .i64 (la : Int))).cell? ⟨w.heap.size + 1 + 1, 0, none⟩ = some (.int .i64 (m : Int)) := BQ.cell 0
    have Z1 : ((w3.setCell ⟨w.heap.size + 1 + 1, 0, none⟩ (.int .i64 (m : Int))).setCell ⟨w.heap.size + 1 + 1, 1, none⟩ (.int .i64 (la : Int))).cell? ⟨w.heap.size + 1 + 1, 1, none⟩ = some (.int .i64 (la : Int)) := BQ.cell 1
    refine bodyPost_ret (v := .agg #[.int .i64 (m : Int), .int .i64 (la : Int)]) (by simp [results, Try.results60, go_sem, Z0, Z1]) rfl ⟨by rw [HR.out, HT.out]; simp [Q1.out], ?_⟩
    exact ((bstep HAL.out HI3.out).setCell (by show w.heap.size ≤ w.heap.size + 1 + 1; omega) _).setCell (by show w.heap.size ≤ w.heap.size + 1 + 1; omega) _
  · have g1 : ¬ (a.hi : Int) < (a.lo : Int) := by omega
    by_cases q2 : a.lo = a.hi
    · have g2 : ((a.lo : Int) == (a.hi : Int)) = true := by simp [q2]
      have Q1 := Lib.hid q1
      have Q2 := Lib.hid q2
      by_cases q3 : b.hi < b.lo
      · have g3 : (b.hi : Int) < (b.lo : Int) := by omega
        have Q3 := Lib.hid q3
        clear q1 q2 q3
        go_wp2_with fail
        have BQ := (BZ4.set_ 0 (.int .i64 (m : Int))).set_ 1 (.int .i64 (la : Int))
        have Z0 : ((w3.setCell ⟨w.heap.size + 1 + 1, 0, none⟩ (.int .i64 (m : Int))).setCell ⟨w.heap.size + 1 + 1, 1, none⟩ (.int .i64 (la : Int))).cell? ⟨w.heap.size + 1 + 1, 0, none⟩ = some (.int .i64 (m : Int)) := BQ.cell 0
        have Z1 : ((w3.setCell ⟨w.heap.size + 1 + 1, 0, none⟩ (.int .i64 (m : Int))).setCell ⟨w.heap.size + 1 + 1, 1, none⟩ (.int .i64 (la : Int))).cell? ⟨w.heap.size + 1 + 1, 1, none⟩ = some (.int .i64 (la : Int)) := BQ.cell 1
        refine bodyPost_ret (v := .agg #[.int .i64 (m : Int), .int .i64 (la : Int)]) (by simp [results, Try.results60, go_sem, Z0, Z1]) rfl ⟨by rw [HR.out, HT.out]; simp [Q1.out, Q2.out, Q3.out], ?_⟩
        exact ((bstep HAL.out HI3.out).setCell (by show w.heap.size ≤ w.heap.size + 1 + 1; omega) _).setCell (by show w.heap.size ≤ w.heap.size + 1 + 1; omega) _
      · have g3 : ¬ (b.hi : Int) < (b.lo : Int) := by omega
        have Q3 := Lib.hid q3
        clear q1 q2 q3
        go_wp2_with fail
        have BQ := (BZ4.set_ 0 (.int .i64 (la : Int))).set_ 1 (.int .i64 (m : Int))
        have Z0 : ((w3.setCell ⟨w.heap.size + 1 + 1, 0, none⟩ (.int .i64 (la : Int))).setCell ⟨w.heap.size + 1 + 1, 1, none⟩ (.int .i64 (m : Int))).cell? ⟨w.heap.size + 1 + 1, 0, none⟩ = some (.int .i64 (la : Int)) := BQ.cell 0
        have Z1 : ((w3.setCell ⟨w.heap.size + 1 + 1, 0, none⟩ (.int .i64 (la : Int))).setCell ⟨w.heap.size + 1 + 1, 1, none⟩ (.int .i64 (m : Int))).cell? ⟨w.heap.size + 1 + 1, 1, none⟩ = some (.int .i64 (m : Int)) := BQ.cell 1
        refine bodyPost_ret (v := .agg #[.int .i64 (la : Int), .int .i64 (m : Int)]) (by simp [results, Try.results60, go_sem, Z0, Z1]) rfl ⟨by rw [HR.out, HT.out]; simp [Q1.out, Q2.out, Q3.out], ?_⟩
        exact ((bstep HAL.out HI3.out).setCell (by show w.heap.size ≤ w.heap.size + 1 + 1; omega) _).setCell (by show w.heap.size ≤ w.heap.size + 1 + 1; omega) _
    · have g2 : ((a.lo : Int) == (a.hi : Int)) = false := by rw [beq_eq_false_iff_ne]; omega
      have Q1 := Lib.hid q1
      have Q2 := Lib.hid q2
      clear q1 q2
      go_wp2_with fail
      have BQ := (BZ4.set_ 0 (.int .i64 (la : Int))).set_ 1 (.int .i64 (m : Int))
      have Z0 : ((w3.setCell ⟨w.heap.size + 1 + 1, 0, none⟩ (.int .i64 (la : Int))).setCell ⟨w.heap.size + 1 + 1, 1, none⟩ (.int .i64 (m : Int))).cell? ⟨w.heap.size + 1 + 1, 0, none⟩ = some (.int .i64 (la : Int)) := BQ.cell 0
      have Z1 : ((w3.setCell ⟨w.heap.size + 1 + 1, 0, none⟩ (.int .i64 (la : Int))).setCell ⟨w.heap.size + 1 + 1, 1, none⟩ (.int .i64 (m : Int))).cell? ⟨w.heap.size + 1 + 1, 1, none⟩ = some (.int .i64 (m : Int)) := BQ.cell 1
      refine bodyPost_ret (v := .agg #[.int .i64 (la : Int), .int .i64 (m : Int)]) (by simp [results, Try.results60, go_sem, Z0, Z1]) rfl ⟨by rw [HR.out, HT.out]; simp [Q1.out, Q2.out], ?_⟩
      exact ((bstep HAL.out HI3.out).setCell (by show w.heap.size ≤ w.heap.size + 1 + 1; omega) _).setCell (by show w.heap.size ≤ w.heap.size + 1 + 1; omega) _
end Go.Proofs.Ythemlhkdgaeogaa
