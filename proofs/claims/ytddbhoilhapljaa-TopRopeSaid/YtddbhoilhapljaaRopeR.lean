/-
  The walk of fustiankeep.roped: the texts of the ropes, whatever is cut.
-/
import Derived.Test.YtddbhoilhapljaaRopeW
import Derived.Test.YtddbhoilhapljaaCopy
namespace Go.Proofs.Ytddbhoilhapljaa
open Go.RowKit
set_option linter.unusedVariables false

theorem op_info : (Try.prog.info? 66).map (fun i => (i.zero, i.size, i.bytes)) = some (some (.agg #[.int .i64 0, .string ⟨#[]⟩, .int .i64 0, .int .i64 0, .int .i64 0, .int .i64 0]), 6, 56) := by kernel_rfl
def opX : Ro := ⟨1, ⟨#[120]⟩, 0, 0, 0, 0⟩
theorem runT_x : runT [] [opX] = ([[120]], [0]) := by
  simp [runT, stepT, opX, rlen, rres, ByteArray.size]
theorem vldT_x : vldT [] [opX] := by
  simp [vldT, rok, opX, lens, ByteArray.size]
def RopedP (l : List Ro) (w : World) (e : Ending) (w' : World) : Prop :=
  ∃ va, e = .returned (.tuple #[va, .bool true]) ∧ w'.ownsRow w.heap.size 9 1 va (runT [] l).1.length ((runT [] l).1.map bytesV) ∧ Below w.heap.size w w'
set_option maxRecDepth 100000 in
set_option maxHeartbeats 8000000 in
theorem roped_any (v : Value) (l : List Ro) (w : World) (h : CRow 6 roc w v l) (hl : l.length ≤ 80) (hv : vldT [] l) :
    Calls Try.prog 31 #[v] w (RopedP l w) := by
  have HH := Lib.hid h
  have HV := Lib.hid hv
  obtain ⟨A, cap, rfl, h1, h2, hr⟩ := h
  clear hr hv
  go_enter Try.func31, Try.ntmps31
  go_wp2_with (at_builtin; refine wpList_copyC roc_len roc_one rfl (.tmp 11) _ rfl 66 _ 56 Try.underlying60 op_info rfl (by decide) _ l rfl HH.out (by omega) (by omega) ?_)
  intro v1 w1 ho1 hp1 hb1
  have HP := Lib.hid (ropePlay_any v1 l w1 hp1 hl HV.out)
  obtain ⟨A1, c1, rfl, hA1, hA2⟩ := own_slice ho1
  clear hp1 ho1
  go_wp2_with fail
  refine HP.out.mono ?_
  rintro e w2 ⟨va, vc, rfl, hva, hvc, hb2⟩
  obtain ⟨A2, c2, rfl, hA21, hA22⟩ := own_slice hva
  obtain ⟨Ac, cc, rfl, hAc1, hAc2⟩ := own_slice hvc
  have hb3 := bstep hb1 hb2
  have HB := Lib.hid hb3
  have HVA := Lib.hid hva
  have hs := hb1.size
  clear hva hvc hb1 hb2 hb3 HP
  have HX := Lib.hid (ropePlay_any _ [opX] (w2.alloc (.cells (cellsOf roc [opX]).toArray 66)) (CRow.lit roc_len w2 66 [opX] (by decide)) (by decide) vldT_x)
  have hal := (Below.refl w2.heap.size w2).alloc (Nat.le_refl _) (.cells (cellsOf roc [opX]).toArray 66)
  go_wp2_with fail
  refine HX.out.mono ?_
  rintro e w3 ⟨va3, vc3, rfl, hva3, hvc3, hb3⟩
  rw [runT_x] at hva3
  have hb4 := bstep_alloc hb3
  have HB4 := Lib.hid (bstep HB.out hb4)
  have HVA4 := Lib.hid (own_below HVA.out hb4)
  obtain ⟨g, c3, rfl, hg, hgl⟩ := hva3.form (by decide)
  have hx0 := hva3.cells (g := g) rfl 0 _ rfl
  obtain ⟨A4, c4, rfl, hc41, hc42⟩ := own_slice hvc3
  clear hva3 hvc3 hb3 hb4 HX hal HV HH HB HVA
  have hx0' : w3.cell? ⟨g, 0, none⟩ = some (.string ⟨#[120]⟩) := hx0
  clear hx0
  have hone : (([([120] : List UInt8)], ([0] : List Nat)).fst.length) = 1 := rfl
  rw [hone]
  clear hone
  go_wp2_with fail
  go_quiet (fail)
  go_wp2_with fail
  go_ret2
  exact ⟨_, rfl, own_mono HVA4.out hs, below_drewN HB4.out _⟩
end Go.Proofs.Ytddbhoilhapljaa
