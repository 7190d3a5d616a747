/-
  The walks of cursors.fault and Norm at cursors that may be.
-/
import Derived.Test.YthemlhkdgaeogaaCurN
namespace Go.Proofs.Ythemlhkdgaeogaa
open Go.RowKit Go.Shelf
set_option linter.unusedVariables false
set_option linter.unusedSimpArgs false

set_option maxHeartbeats 1000000 in
theorem curBad_any (c : Sp) (n g : Nat) (w : World) (hg : g < w.heap.size) (h0 : w.cell? ⟨g, 0, none⟩ = some (.int .i64 (n : Int))) (hc : chi c ≤ n) :
    Calls Try.prog 57 #[spv c, .pointer (some ⟨g, 0, none⟩)] w fun e w' => e = .returned (.bool false) ∧ Below w.heap.size w w' := by
  have LC := Lib.hid (fun W => Gr.clo_any c W)
  have HC := Lib.hid (fun W => Gr.chi_any c W)
  have BX := Blk.new w 46 #[.int .i64 (c.lo : Int), .int .i64 (c.hi : Int)]
  have hal := (Below.refl w.heap.size w).alloc (Nat.le_refl _) (.cells #[.int .i64 (c.lo : Int), .int .i64 (c.hi : Int)] 46)
  have h1 : (w.alloc (.cells #[.int .i64 (c.lo : Int), .int .i64 (c.hi : Int)] 46)).cell? ⟨g, 0, none⟩ = some (.int .i64 (n : Int)) := (hal.cell (p := ⟨g, 0, none⟩) hg).trans h0
  have hgW : g < (w.alloc (.cells #[.int .i64 (c.lo : Int), .int .i64 (c.hi : Int)] 46)).heap.size := by simp; omega
  have HAL := Lib.hid hal
  unfold spv at *
  generalize clo c = lc at *
  generalize chi c = hc' at *
  have g1 : decide (n < hc') = false := decide_eq_false (by omega)
  have g0 : decide ((lc : Int) < 0) = false := decide_eq_false (by omega)
  clear hal
  go_enter Try.func57, Try.ntmps57
  go_wp2_with fail
  generalize (w.alloc (.cells #[.int .i64 (c.lo : Int), .int .i64 (c.hi : Int)] 46)) = W at *
  refine wp_region_below (by kernel_rfl) (by kernel_rfl) ?_
  intro ι F hne hF hG
  have p0 : ∀ i, (F i).cell? ⟨w.heap.size, 0, none⟩ = some (.int .i64 (c.lo : Int)) := fun i => (BX.below (hF i) BX.lt).cell 0
  have p1 : ∀ i, (F i).cell? ⟨w.heap.size, 1, none⟩ = some (.int .i64 (c.hi : Int)) := fun i => (BX.below (hF i) BX.lt).cell 1
  have q0 : ∀ i, (F i).cell? ⟨g, 0, none⟩ = some (.int .i64 (n : Int)) := fun i => ((hF i).cell (p := ⟨g, 0, none⟩) hgW).trans h1
  repeat go_big_quiet_step (first | ((with_reducible refine (LC.out _).mono ?_); rintro e w1 ⟨rfl, hb⟩; exact ⟨rfl, hG _ _ hb.below⟩) | ((with_reducible refine (HC.out _).mono ?_); rintro e w1 ⟨rfl, hb⟩; exact ⟨rfl, hG _ _ hb.below⟩))
  refine wpQuiet_nil ?_
  intro _ hw'
  obtain ⟨nr, rfl⟩ := hw'
  have hI := hF nr
  generalize F nr = w5 at *
  have HI := Lib.hid (bstep HAL.out hI)
  clear p0 p1 q0 hI hF hG
  go_wp2_with fail
  go_ret
  exact ⟨rfl, HI.out⟩
set_option maxHeartbeats 1000000 in
theorem indexBad_any (v : Value) (l : List Sp) (n g : Nat) (w : World) (h : CRow 2 spc w v l) (hl : l.length ≤ 1000) (hg : g < w.heap.size) (h0 : w.cell? ⟨g, 0, none⟩ = some (.int .i64 (n : Int))) (hn : Upto n l) :
    Calls Try.prog 78 #[v, .func (.func 57) #[] #[.pointer (some ⟨g, 0, none⟩)]] w fun e w' => e = .returned (.int .i64 (-1)) ∧ Below w.heap.size w w' := by
  obtain ⟨A, c, rfl, hlc, hc, hrd⟩ := h
  unfold maxLen at hc
  have HN := Lib.hid hn
  clear hn
  have e79 : ∀ args w, (callFunc 57 args).run Try.prog w = .ok (.enter 57 args) w := fun args w => by kernel_rfl
  go_enter Try.func78, Try.ntmps78
  go_wp2_with fail
  go_loopw [8] (fun i wr => ∃ k : Nat, k ≤ l.length ∧ i = .int .i64 k ∧ Below w.heap.size w wr) (fun i _ => l.length - (intOf i).toNat)
  case atStart => exact ⟨0, Nat.zero_le _, rfl, Below.refl _ _⟩
  case round =>
    obtain ⟨k, hk, rfl, hb⟩ := hrel
    by_cases hlt : k < l.length
    · obtain ⟨b0, o0, rfl, hb0, c0, c1⟩ := CRow.cells2 (hrd.below hb) hlt
      have HP := Lib.hid (curBad_any l[k] n g wr (Nat.lt_of_lt_of_le hg hb.size) ((hb.cell (p := ⟨g, 0, none⟩) hg).trans h0) (chi_le (HN.out _ (List.getElem_mem hlt))))
      unfold spv at HP
      generalize l[k] = x at *
      have HB := Lib.hid hb
      clear hb h0
      go_wp2_with (go_at_fn 57; refine HP.out.mono ?_; rintro e w2 ⟨rfl, hb2⟩)
      have HB2 := Lib.hid (bstep HB.out hb2)
      clear hb2
      go_roundw
      case rel => exact ⟨k + 1, by omega, by go_num, HB2.out⟩
      case measure => simp [intOf]; omega
    · obtain rfl : k = l.length := by omega
      have HB := Lib.hid hb
      clear hb h0
      go_wp2_with fail
      go_ret
      exact ⟨rfl, HB.out⟩
theorem containsBad_any (v : Value) (l : List Sp) (n g : Nat) (w : World) (h : CRow 2 spc w v l) (hl : l.length ≤ 1000) (hg : g < w.heap.size) (h0 : w.cell? ⟨g, 0, none⟩ = some (.int .i64 (n : Int))) (hn : Upto n l) :
    Calls Try.prog 56 #[v, .func (.func 57) #[] #[.pointer (some ⟨g, 0, none⟩)]] w fun e w' => e = .returned (.bool false) ∧ Below w.heap.size w w' := by
  have HI := Lib.hid (indexBad_any v l n g w h hl hg h0 hn)
  obtain ⟨A, c, rfl, hlc, hc, hrd⟩ := h
  clear hrd h0 hn
  go_enter Try.func56, Try.ntmps56
  go_wp2_with fail
  refine HI.out.mono ?_
  rintro e w1 ⟨rfl, hb1⟩
  go_wp2_with fail
  go_ret
  exact ⟨rfl, hb1⟩
set_option maxHeartbeats 1000000 in
theorem curFault_any (n : Nat) (v : Value) (l : List Sp) (w : World) (h : CRow 2 spc w v l) (hl : l.length ≤ 20) (hn : n ≤ 600) (hu : Upto n l) :
    Calls Try.prog 39 #[.int .i64 (n : Int), v] w fun e w' => e = .returned (.int .i64 0) ∧ Below w.heap.size w w' := by
  have BX := Blk.new w 3 #[.int .i64 (n : Int)]
  have hal := (Below.refl w.heap.size w).alloc (Nat.le_refl _) (.cells #[.int .i64 (n : Int)] 3)
  have HI := Lib.hid (containsBad_any v l n w.heap.size _ (h.later hal) (by omega) BX.lt (BX.cell 0) hu)
  have HAL := Lib.hid hal
  obtain ⟨A, c, rfl, hlc, hc, hrd⟩ := h
  have y0 := BX.cell 0
  have g1 : ¬ (20 : Int) < (l.length : Int) := by omega
  have g2 : ¬ (n : Int) < 0 := by omega
  have g3 : ¬ (600 : Int) < (n : Int) := by omega
  clear hrd hu hal BX
  go_enter Try.func39, Try.ntmps39
  go_wp2_with fail
  refine HI.out.mono ?_
  rintro e w1 ⟨rfl, hb1⟩
  have HB := Lib.hid (bstep HAL.out hb1)
  clear hb1 y0
  go_wp2_with fail
  go_ret
  exact ⟨rfl, HB.out⟩
def NormsPost (l : List Sp) (w : World) (e : Ending) (w' : World) : Prop := ∃ v o, e = .returned (.tuple #[v, .int .i64 0]) ∧ w'.ownsRow w.heap.size 46 2 v o.length (cellsOf spc o) ∧ IsNorm l o ∧ Below w.heap.size w w'
theorem norms_any (n : Nat) (v : Value) (l : List Sp) (w : World) (base : Nat) (h : w.ownsRow base 46 2 v l.length (cellsOf spc l)) (hl : l.length ≤ 19) (hn : n ≤ 600) (hu : Upto n l) :
    Calls Try.prog 21 #[.int .i64 (n : Int), v] w (NormsPost l w) := by
  have HF := Lib.hid (curFault_any n v l w (CRow.of_own spc_len h) (by omega) hn hu)
  have HN := Lib.hid (fun W (hW : Below w.heap.size w W) => norm_any v l W base (own_below h hW) hl (fun c hc => by have := hu c hc; omega))
  obtain ⟨A, c, rfl⟩ := cur_form h
  clear h hu
  go_enter Try.func21, Try.ntmps21
  go_wp2_with fail
  refine HF.out.mono ?_
  rintro e w1 ⟨rfl, hb1⟩
  have HB := Lib.hid hb1
  clear hb1
  go_wp2_with fail
  refine (HN.out _ HB.out).mono ?_
  rintro e w2 ⟨v2, o, rfl, ho2, hi2, hb2⟩
  have HO := Lib.hid (own_mono ho2 HB.out.size)
  have HB2 := Lib.hid (bstep HB.out hb2)
  have HI := Lib.hid hi2
  clear ho2 hi2 hb2
  go_wp2_with fail
  go_ret2
  exact ⟨_, o, rfl, HO.out, HI.out, HB2.out⟩
end Go.Proofs.Ythemlhkdgaeogaa
