/-
  The walk of spans.Shift at sets and edits that may be.
-/
import Derived.Test.YthemlhkdgaeogaaShift
import Derived.Test.YthemlhkdgaeogaaSpanM
namespace Go.Proofs.Ythemlhkdgaeogaa
open Go.RowKit Go.Shelf
set_option linter.unusedVariables false
set_option linter.unusedSimpArgs false

def ShiftFPost (l : List Sp) (p c m : Nat) (w : World) (e : Ending) (w' : World) : Prop :=
  ∃ v o, e = .returned (.tuple #[v, .int .i64 0]) ∧ w'.ownsRow w.heap.size 73 2 v o.length (cellsOf spc o) ∧ IsShift l p c m o ∧ Below w.heap.size w w'
theorem IsShift.set_ {n p c m : Nat} {l o : List Sp} (h : IsShift l p c m o) (hl : Set_ n l) (hp : p + c ≤ n) : Set_ (n + m - c) o :=
  ⟨h.1, hi_le h.1 (fun j hj => by
    rw [h.2.1] at hj
    simp only [Bool.or_eq_true, Bool.and_eq_true, decide_eq_true_eq] at hj
    rcases hj with hj | hj
    · unfold backAt at hj
      split at hj
      · omega
      · simp only [Bool.and_eq_true, decide_eq_true_eq] at hj
        have := mem_lt hl.hi _ hj.2
        omega
    · omega)⟩
set_option maxRecDepth 100000 in
set_option maxHeartbeats 1000000 in
theorem shift_any (n : Nat) (v : Value) (l : List Sp) (p c : Nat) (put : ByteArray) (w : World) (base : Nat) (h : w.ownsRow base 73 2 v l.length (cellsOf spc l)) (hl : l.length ≤ 36) (hn : n ≤ 590) (hS : Set_ n l) (he : p + c ≤ n) (hput : put.size ≤ 8) :
    Calls Try.prog 16 #[.int .i64 (n : Int), v, .agg #[.int .i64 (p : Int), .int .i64 (c : Int), .string put]] w (ShiftFPost l p c put.size w) := by
  have BE := Blk.new w 29 #[.int .i64 (p : Int), .int .i64 (c : Int), .string put]
  have hal := (Below.refl w.heap.size w).alloc (Nat.le_refl _) (.cells #[.int .i64 (p : Int), .int .i64 (c : Int), .string put] 29)
  have HM := Lib.hid (spansMay_any n v l _ ((CRow.of_own spc_len h).later hal) (by omega) (by omega) hS.nrm hS.hi)
  have HF := Lib.hid (fun W => check_any n p c put W he (by omega) (by omega))
  have HW := Lib.hid (fun W (hW : Below w.heap.size w W) => shifted_any n v l p c put W base (own_below h hW) hl (by omega) hS he hput)
  obtain ⟨A, ca, rfl, hc1, hc2⟩ := own_slice h
  clear h
  go_enter Try.func16, Try.ntmps16
  go_wp2_with fail
  refine HM.out.mono ?_
  rintro e w1 ⟨rfl, hb1⟩
  have BE1 := BE.below hb1 (by simp)
  have y0 : w1.cell? ⟨w.heap.size, 0, none⟩ = some (.int .i64 (p : Int)) := BE1.cell 0
  have y1 : w1.cell? ⟨w.heap.size, 1, none⟩ = some (.int .i64 (c : Int)) := BE1.cell 1
  have y2 : w1.cell? ⟨w.heap.size, 2, none⟩ = some (.string put) := BE1.cell 2
  have HB := Lib.hid (hal.trans (hb1.mono (by simp)))
  clear hb1 hal BE
  go_wp2_with fail
  refine (HF.out _).mono ?_
  rintro e w2 ⟨rfl, hb2⟩
  have BE2 := BE1.below hb2 BE1.lt
  have HB2 := Lib.hid (bstep HB.out hb2)
  clear y0 y1 y2 hb2 BE1
  have y0 : w2.cell? ⟨w.heap.size, 0, none⟩ = some (.int .i64 (p : Int)) := BE2.cell 0
  have y1 : w2.cell? ⟨w.heap.size, 1, none⟩ = some (.int .i64 (c : Int)) := BE2.cell 1
  have y2 : w2.cell? ⟨w.heap.size, 2, none⟩ = some (.string put) := BE2.cell 2
  clear BE2
  go_wp2_with fail
  refine (HW.out _ HB2.out).mono ?_
  rintro e w3 ⟨v3, o, rfl, ho3, hi3, hb3⟩
  have hol := hi3.2.2
  have HO3 := Lib.hid (own_mono ho3 HB2.out.size)
  have HB3 := Lib.hid (bstep HB2.out hb3)
  have HI3 := Lib.hid hi3
  obtain ⟨A3, c3, rfl, hA31, hA32⟩ := own_slice ho3
  have HFU := Lib.hid (full_any A3 o.length c3 w3 (by omega))
  clear ho3 hb3 hi3
  go_wp2_with fail
  refine HFU.out.mono ?_
  rintro e w4 ⟨rfl, rfl⟩
  go_wp2_with fail
  go_ret2
  exact ⟨_, o, rfl, HO3.out, HI3.out, HB3.out⟩
end Go.Proofs.Ythemlhkdgaeogaa
