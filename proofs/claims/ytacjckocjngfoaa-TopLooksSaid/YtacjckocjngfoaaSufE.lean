/-
  The walk of suffix.sorted at the empty text, and of suffix.fault.
-/
import Derived.Test.YtacjckocjngfoaaSufW
import Derived.Shelf.SlSortCmp.NoneTotal
import Derived.BigQuiet
namespace Go.Proofs.Ytacjckocjngfoaa
open Go.RowKit Go.Shelf Go.Sort
set_option linter.unusedVariables false
set_option linter.unusedSimpArgs false

theorem bij_none (o p : Nat → Nat) : Bij 0 o p := fun k hk => absurd hk (by omega)
theorem ends_none (S : List UInt8) : EndsUp S 0 (fun k => k) (fun k => k) := ⟨bij_none _ _, fun i j _ h => absurd h (by omega)⟩
set_option maxRecDepth 100000 in
set_option maxHeartbeats 8000000 in
theorem sorted_none (s : ByteArray) (hs : s.size = 0) (w : World) :
    Calls Try.prog 21 #[.string s] w (SortedPost s.data.toList s.size w) := by
  have hmk : ∀ W : World, (Instr.makeSlice 22 (.int .i64 0) (.int .i64 0)).run Try.prog W = .ok (.slice (some ⟨W.heap.size, 0, none⟩) 0 0) (W.alloc (.cells (madeCells #[.int .i64 0] 0) 3)) :=
    fun W => run_make_row' (P := Try.prog) 22 3 (.int .i64 0) 8 Try.underlying22 int_info rfl .i64 .i64 0 (by omega) (by omega) W
  have SN := Lib.hid (fun p fv W => AnyF.slices_SortFunc_none (P := Try.prog) (ρ := sortIntsL_ren) { sortIntsL with } p 0 fv W)
  rw [hs]
  have hs0 : (s.size : Int) = 0 := by omega
  go_enter Try.func21, Try.ntmps21
  go_wp2_with fail
  go_cut [4, 5] (fun s4 s5 wc => ∃ g gr rb : Nat, s4 = .slice (some ⟨g, 0, none⟩) 0 0 ∧ s5 = .pointer (some ⟨gr, 0, none⟩) ∧ Blk wc gr 22 #[.slice (some ⟨rb, 0, none⟩) 0 0] ∧ wc.rowIs g 3 0 (fun _ => .int .i64 0) ∧ wc.rowIs rb 3 0 (fun _ => .int .i64 0) ∧ Blk wc w.heap.size 3 #[.int .i64 0] ∧ w.heap.size < g ∧ w.heap.size < gr ∧ w.heap.size < rb ∧ g ≠ gr ∧ g ≠ rb ∧ rb ≠ gr ∧ Below w.heap.size w wc)
  case first =>
    go_region
    all_goals go_wp2_with fail
    all_goals clear hmk
    all_goals go_meet
    all_goals first
      | refine ⟨_, _, _, rfl, rfl, bk1 _ _ _ _ _ _, ?_, ?_, bk0 _ _ _ _ _ _, by omega, by omega, by omega, by omega, by omega, by omega, be4 _ _ _ _ _⟩
      | refine ⟨_, _, _, rfl, rfl, bk2 _ _ _ _ _ _, ?_, ?_, bk0 _ _ _ _ _ _, by omega, by omega, by omega, by omega, by omega, by omega, be4 _ _ _ _ _⟩
      | refine ⟨_, _, _, rfl, rfl, bk3 _ _ _ _ _ _, ?_, ?_, bk0 _ _ _ _ _ _, by omega, by omega, by omega, by omega, by omega, by omega, be4 _ _ _ _ _⟩
    all_goals first
      | exact rm1 _ 0 _ _ _ _ _
      | exact rm2 _ 0 _ _ _ _ _
      | exact rm3 _ 0 _ _ _ _ _
  case rest =>
    obtain ⟨g, gr, rb, rfl, rfl, BR, RG, RB, BN, l1, l2, l3, d1, d2, d3, HB⟩ := hcut
    have c0 : wc.cell? ⟨w.heap.size, 0, none⟩ = some (.int .i64 0) := BN.cell 0
    go_wp2_with fail
    clear c0
    refine wp_loop_rounds 1 ?_
    rw [rounds_succ]
    go_wp2_with fail
    refine wp_loop_rounds 1 ?_
    rw [rounds_succ]
    go_wp2_with fail
    refine (SN.out _ _ _).mono ?_
    rintro e w2 ⟨rfl, hw2⟩
    have BN2 := (BN.alloc (.cells #[.int .i64 1] 3)).alloc (.cells #[.func (.func 32) #[] #[.pointer (some ⟨wc.heap.size, 0, none⟩), .pointer (some ⟨w.heap.size, 0, none⟩), .pointer (some ⟨gr, 0, none⟩)]] 64)
    have BR2 := (BR.alloc (.cells #[.int .i64 1] 3)).alloc (.cells #[.func (.func 32) #[] #[.pointer (some ⟨wc.heap.size, 0, none⟩), .pointer (some ⟨w.heap.size, 0, none⟩), .pointer (some ⟨gr, 0, none⟩)]] 64)
    have RG2 := (RG.alloc (.cells #[.int .i64 1] 3)).alloc (.cells #[.func (.func 32) #[] #[.pointer (some ⟨wc.heap.size, 0, none⟩), .pointer (some ⟨w.heap.size, 0, none⟩), .pointer (some ⟨gr, 0, none⟩)]] 64)
    have HB2 := (HB.alloc HB.size (.cells #[.int .i64 1] 3)).alloc (by have := HB.size; simp; omega) (.cells #[.func (.func 32) #[] #[.pointer (some ⟨wc.heap.size, 0, none⟩), .pointer (some ⟨w.heap.size, 0, none⟩), .pointer (some ⟨gr, 0, none⟩)]] 64)
    rw [← hw2] at BN2 BR2 RG2 HB2
    clear hw2 SN
    have c0 : w2.cell? ⟨w.heap.size, 0, none⟩ = some (.int .i64 0) := BN2.cell 0
    have c1 : (w2.alloc (.cells (madeCells #[.int .i64 0] 0) 3)).cell? ⟨w.heap.size, 0, none⟩ = some (.int .i64 0) := (BN2.alloc _).cell 0
    have c2 := (BR2.alloc (.cells (madeCells #[.int .i64 0] 0) 3)).cell 0
    have c3 := (BR2.alloc (.cells (madeCells #[.int .i64 0] 0) 3)).frozen 0
    have HB3 := HB2.alloc HB2.size (.cells (madeCells #[.int .i64 0] 0) 3)
    go_wp2_with fail
    clear hmk
    have RG3 := RG2.alloc (.cells (madeCells #[.int .i64 0] 0) 3)
    have BN3 := BN2.alloc (.cells (madeCells #[.int .i64 0] 0) 3)
    generalize w2.alloc (.cells (madeCells #[.int .i64 0] 0) 3) = w3 at *
    refine wp_loop_rounds 1 ?_
    rw [rounds_succ]
    go_wp2_with fail
    have RG4 := RG3.setOther (a := ⟨gr, 0, none⟩) d1 (.slice (some ⟨w2.heap.size, 0, none⟩) 0 0)
    have c4 := (BN3.far (p := ⟨gr, 0, none⟩) (by simp only; omega) (.slice (some ⟨w2.heap.size, 0, none⟩) 0 0)).cell 0
    have HB4 := HB3.setCell (p := ⟨gr, 0, none⟩) (by simp only; omega) (.slice (some ⟨w2.heap.size, 0, none⟩) 0 0)
    generalize w3.setCell ⟨gr, 0, none⟩ (.slice (some ⟨w2.heap.size, 0, none⟩) 0 0) = w4 at *
    clear c0 c1 c2 c3
    go_quiet (fail)
    go_wp2_with fail
    go_ret
    exact ⟨g, _, _, rfl, by omega, ends_none _, RG4.congr (fun j hj => absurd hj (by omega)), below_drewN HB4 _⟩
theorem sortedA_any (s : ByteArray) (hs : s.size ≤ 1000) (w : World) :
    Calls Try.prog 21 #[.string s] w (SortedPost s.data.toList s.size w) := by
  rcases Nat.eq_zero_or_pos s.size with h | h
  · exact sorted_none s h w
  · exact sorted_any s h hs w
end Go.Proofs.Ytacjckocjngfoaa
