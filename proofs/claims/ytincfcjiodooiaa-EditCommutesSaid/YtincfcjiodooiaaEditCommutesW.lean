/-
  The walk of the law EditCommutes: whatever its input, it returns true and changes nothing that was there.
-/
import Derived.Test.YtincfcjiodooiaaComm
import Derived.Test.YtincfcjiodooiaaReg
namespace Go.Proofs.Ytincfcjiodooiaa
open Go.RowKit
set_option linter.unusedVariables false

set_option maxRecDepth 100000 in
set_option maxHeartbeats 4000000 in
theorem editCommutes_walk (w : World) (v0 : Value) (l : List Int) (h0 : Row .i64 w v0 l) (za : Chg × Value × Value × Value) (h1 : Chg1 w za.2.1 za.2.2.1 za.2.2.2 za.1) (zb : Chg × Value × Value × Value) (h2 : Chg1 w zb.2.1 zb.2.2.1 zb.2.2.2 zb.1) :
    Calls Try.prog 5 #[v0, .agg #[za.2.1, za.2.2.1, za.2.2.2], .agg #[zb.2.1, zb.2.2.1, zb.2.2.2]] w fun e w' => e = .returned (.bool true) ∧ Below w.heap.size w w' := by
  obtain ⟨za, a0, a1, a2⟩ := za
  obtain ⟨zb, b0, b1, b2⟩ := zb
  simp only at h1 h2 ⊢
  obtain ⟨V, hV⟩ : ∃ V : World, V = (w.alloc (Obj.cells #[a0, a1, a2] 36)).alloc (Obj.cells #[b0, b1, b2] 36) := ⟨_, rfl⟩
  have hK : Below w.heap.size w V := by rw [hV]; exact ((Below.refl _ _).alloc (Nat.le_refl _) _).alloc (by simp) _
  have hz : w.heap.size + 1 < V.heap.size := by rw [hV]; simp
  have hz0 : w.heap.size < V.heap.size := by omega
  obtain ⟨A0, A1, A2⟩ : V.cell? ⟨w.heap.size, 0, none⟩ = some a0 ∧ V.cell? ⟨w.heap.size, 1, none⟩ = some a1 ∧ V.cell? ⟨w.heap.size, 2, none⟩ = some a2 := by rw [hV]; simp [go_sem]
  obtain ⟨B0, B1, B2⟩ : V.cell? ⟨w.heap.size + 1, 0, none⟩ = some b0 ∧ V.cell? ⟨w.heap.size + 1, 1, none⟩ = some b1 ∧ V.cell? ⟨w.heap.size + 1, 2, none⟩ = some b2 := by rw [hV]; simp [go_sem]
  have HV := Lib.hid hV
  have h0' := h0.later hK
  have h1' := h1.later hK
  have h2' := h2.later hK
  clear hV h0 h1 h2
  go_enter Try.func5, Try.ntmps5
  go_wp2_with fail
  rw [← HV.out]
  refine (textOf_any v0 l 60 _ h0' (by omega) (by omega)).mono ?_
  rintro e w1 ⟨s, rfl, es0, rfl⟩
  have ss := text_len _ _ _ es0; clear es0
  simp only [show Int.toNat 60 = 60 from rfl] at ss
  go_wp2_with fail
  refine (editOf_any za a0 a1 a2 s.size _ h1' (by omega)).mono ?_
  rintro e w2 ⟨x, rfl, hx, hx12, hx8, hb2⟩
  obtain ⟨B0', B1', B2'⟩ := three_below hb2 hz ⟨B0, B1, B2⟩
  have k2 := bstep hK hb2
  replace h2' := h2'.later hb2
  have hz2 : w.heap.size + 1 < w2.heap.size := Nat.lt_of_lt_of_le hz hb2.size
  clear A0 A1 A2 B0 B1 B2 hb2 hK hz hz0 HV h0' h1'
  have TX := Lib.hid (Three.new w2 (.int .i64 x.p) (.int .i64 x.c) (.string x.put) 38)
  have kx := k2.alloc k2.size (Obj.cells #[.int .i64 x.p, .int .i64 x.c, .string x.put] 38)
  replace h2' := h2'.later ((Below.refl _ _).alloc (Nat.le_refl _) (Obj.cells #[.int .i64 x.p, .int .i64 x.c, .string x.put] 38))
  go_wp2_with fail
  refine (editOf_any zb b0 b1 b2 s.size _ h2' (by omega)).mono ?_
  rintro e w3 ⟨y, rfl, hy, hy12, hy8, hb3⟩
  replace TX := Lib.hid (TX.out.later hb3)
  have k3 := bstep kx hb3
  clear B0' B1' B2' hb3 h2' k2 kx hz2
  replace TX := Lib.hid (TX.out.alloc (Obj.cells #[.int .i64 y.p, .int .i64 y.c, .string y.put] 38))
  have TY := Lib.hid (Three.new w3 (.int .i64 y.p) (.int .i64 y.c) (.string y.put) 38)
  replace k3 := k3.alloc k3.size (Obj.cells #[.int .i64 y.p, .int .i64 y.c, .string y.put] 38)
  obtain ⟨gx, x0, x1, x2⟩ := TX.out
  obtain ⟨gy, y0, y1, y2⟩ := TY.out
  go_wp2_with fail
  generalize w3.alloc (Obj.cells #[.int .i64 y.p, .int .i64 y.c, .string y.put] 38) = V3 at *
  have OX := Lib.hid (fun W => over_any s.size x y W (by omega) hx hy (by omega) (by omega))
  have OY := Lib.hid (fun W => over_any s.size y x W (by omega) hy hx (by omega) (by omega))
  have oz : ∀ W, Calls Try.prog 22 #[.int .i64 3, .agg #[.int .i64 0, .int .i64 2, .string ⟨#[]⟩], .agg #[.int .i64 1, .int .i64 2, .string ⟨#[]⟩]] W fun e w' => e = .returned (.tuple #[.agg #[.int .i64 0, .int .i64 0, .string ⟨#[]⟩], .int .i64 10]) ∧ Below W.heap.size W w' := by
    intro W
    have := over_any 3 ⟨0, 2, ⟨#[]⟩⟩ ⟨1, 2, ⟨#[]⟩⟩ W (by omega) (by decide) (by decide) (by decide) (by decide)
    unfold OvPost at this
    rw [if_pos (by decide)] at this
    exact this
  have OZ := Lib.hid oz
  clear oz
  by_cases hcl : clash x y
  · have HCL := Lib.hid hcl
    have HCL2 := Lib.hid ((clash_comm x y).1 hcl)
    clear hcl
    refine (OX.out _).mono ?_
    rintro e w4 ⟨rfl, hb4⟩
    rw [if_pos HCL.out]
    obtain ⟨gx', x0', x1', x2'⟩ := TX.out.later hb4
    obtain ⟨gy', y0', y1', y2'⟩ := TY.out.later hb4
    have k4 := bstep k3 hb4
    clear gx gy x0 x1 x2 y0 y1 y2 hb4 TX TY k3
    go_wp2_with fail
    refine (OY.out _).mono ?_
    rintro e w5 ⟨rfl, hb5⟩
    rw [if_pos HCL2.out]
    have k5 := bstep (k4.alloc k4.size _) hb5
    clear gx' gy' x0' x1' x2' y0' y1' y2' hb5 k4
    go_wp2_with fail
    refine (OZ.out _).mono ?_
    rintro e w6 ⟨rfl, hb6⟩
    have k6 := bstep (k5.alloc k5.size _) hb6
    clear hb6 k5
    go_wp2_with fail
    go_ret
    exact ⟨rfl, k6.alloc k6.size _⟩
  · have HCL := Lib.hid hcl
    have HCL2 := Lib.hid (fun h => hcl ((clash_comm x y).2 h))
    have HEQ := Lib.hid (commutes s x y hx hy hcl)
    have i1 := ovr_in s.size x y hx hy hcl
    have i2 := ovr_in s.size y x hy hx (fun h => hcl ((clash_comm x y).2 h))
    have q1 : (ovr x y).c = x.c := rfl
    have q2 : (ovr y x).c = y.c := rfl
    have q3 : (ovr x y).put = x.put := rfl
    have q4 : (ovr y x).put = y.put := rfl
    clear hcl
    refine (OX.out _).mono ?_
    rintro e w4 ⟨rfl, hb4⟩
    rw [if_neg HCL.out]
    unfold edv
    rw [q1, q3]
    have TX4 := TX.out.later hb4
    have TY4 := TY.out.later hb4
    have k4 := bstep k3 hb4
    clear gx gy x0 x1 x2 y0 y1 y2 hb4 TX TY k3
    have TX5 := Lib.hid (TX4.alloc (Obj.cells #[.int .i64 (ovr x y).p, .int .i64 x.c, .string x.put] 38))
    have TY5 := Lib.hid (TY4.alloc (Obj.cells #[.int .i64 (ovr x y).p, .int .i64 x.c, .string x.put] 38))
    have TP5 := Lib.hid (Three.new w4 (.int .i64 (ovr x y).p) (.int .i64 x.c) (.string x.put) 38)
    replace k4 := k4.alloc k4.size (Obj.cells #[.int .i64 (ovr x y).p, .int .i64 x.c, .string x.put] 38)
    obtain ⟨gx, x0, x1, x2⟩ := TX5.out
    obtain ⟨gy, y0, y1, y2⟩ := TY5.out
    clear TX4 TY4
    go_wp2_with fail
    generalize w4.alloc (Obj.cells #[.int .i64 (ovr x y).p, .int .i64 x.c, .string x.put] 38) = V4 at *
    refine (OY.out _).mono ?_
    rintro e w5 ⟨rfl, hb5⟩
    rw [if_neg HCL2.out]
    unfold edv
    rw [q2, q4]
    have TX6 := TX5.out.later hb5
    have TY6 := TY5.out.later hb5
    have TP6 := TP5.out.later hb5
    have k5 := bstep k4 hb5
    clear gx gy x0 x1 x2 y0 y1 y2 hb5 TX5 TY5 TP5 k4
    have TX7 := Lib.hid (TX6.alloc (Obj.cells #[.int .i64 (ovr y x).p, .int .i64 y.c, .string y.put] 38))
    have TY7 := Lib.hid (TY6.alloc (Obj.cells #[.int .i64 (ovr y x).p, .int .i64 y.c, .string y.put] 38))
    have TP7 := Lib.hid (TP6.alloc (Obj.cells #[.int .i64 (ovr y x).p, .int .i64 y.c, .string y.put] 38))
    have TQ7 := Lib.hid (Three.new w5 (.int .i64 (ovr y x).p) (.int .i64 y.c) (.string y.put) 38)
    replace k5 := k5.alloc k5.size (Obj.cells #[.int .i64 (ovr y x).p, .int .i64 y.c, .string y.put] 38)
    clear TX6 TY6 TP6
    go_wp2_with fail
    generalize w5.alloc (Obj.cells #[.int .i64 (ovr y x).p, .int .i64 y.c, .string y.put] 38) = V5 at *
    refine (OZ.out _).mono ?_
    rintro e w6 ⟨rfl, hb6⟩
    have TX8 := Lib.hid ((TX7.out.later hb6).alloc (Obj.cells #[.int .i64 0, .int .i64 0, .string ⟨#[]⟩] 38))
    have TY8 := Lib.hid ((TY7.out.later hb6).alloc (Obj.cells #[.int .i64 0, .int .i64 0, .string ⟨#[]⟩] 38))
    have TP8 := Lib.hid ((TP7.out.later hb6).alloc (Obj.cells #[.int .i64 0, .int .i64 0, .string ⟨#[]⟩] 38))
    have TQ8 := Lib.hid ((TQ7.out.later hb6).alloc (Obj.cells #[.int .i64 0, .int .i64 0, .string ⟨#[]⟩] 38))
    have k6 := (bstep k5 hb6)
    replace k6 := k6.alloc k6.size (Obj.cells #[.int .i64 0, .int .i64 0, .string ⟨#[]⟩] 38)
    clear TX7 TY7 TP7 TQ7 k5 hb6
    obtain ⟨gy, y0, y1, y2⟩ := TY8.out
    obtain ⟨gp, p0, p1, p2⟩ := TP8.out
    go_wp2_with fail
    have hv6 : w6.heap.size + 1 = (w6.alloc (Obj.cells #[.int .i64 0, .int .i64 0, .string ⟨#[]⟩] 38)).heap.size := by simp
    rw [hv6]
    clear q1 q2 q3 q4 hv6
    generalize w6.alloc (Obj.cells #[.int .i64 0, .int .i64 0, .string ⟨#[]⟩] 38) = V6 at *
    have L1 := EdRow.lit V6 38 [y, ⟨(ovr x y).p, x.c, x.put⟩] (show 2 ≤ maxLen by decide)
    have z1 : s.size + y.put.size - y.c = s.size - y.c + y.put.size := by omega
    have z2 : s.size + x.put.size - x.c = s.size - x.c + x.put.size := by omega
    refine (edited_any s _ [y, ⟨(ovr x y).p, x.c, x.put⟩] _ L1 (by omega) (show 2 ≤ 60 by omega) (by intro e he; simp at he; rcases he with rfl | rfl <;> (try simp only) <;> omega) ⟨hy, by omega, by rw [z1]; exact i1, by simp only; omega, trivial⟩).mono ?_
    rintro e w7 ⟨rfl, hb7⟩
    have bA := (Below.refl _ V6).alloc (Nat.le_refl _) (Obj.cells (edCells [y, ⟨(ovr x y).p, x.c, x.put⟩]).toArray 38)
    have b7 := bstep bA hb7
    obtain ⟨gx, x0, x1, x2⟩ := TX8.out.later b7
    obtain ⟨gq, q0, q1, q2⟩ := TQ8.out.later b7
    have k7 := bstep k6 b7
    clear gy y0 y1 y2 gp p0 p1 p2 TX8 TY8 TP8 TQ8 hb7 bA b7 k6 L1
    go_wp2_with fail
    have L2 := EdRow.lit w7 38 [x, ⟨(ovr y x).p, y.c, y.put⟩] (show 2 ≤ maxLen by decide)
    refine (edited_any s _ [x, ⟨(ovr y x).p, y.c, y.put⟩] _ L2 (by omega) (show 2 ≤ 60 by omega) (by intro e he; simp at he; rcases he with rfl | rfl <;> (try simp only) <;> omega) ⟨hx, by omega, by rw [z2]; exact i2, by simp only; omega, trivial⟩).mono ?_
    rintro e w8 ⟨rfl, hb8⟩
    have bA := (Below.refl _ w7).alloc (Nat.le_refl _) (Obj.cells (edCells [x, ⟨(ovr y x).p, y.c, y.put⟩]).toArray 38)
    have k8 := bstep k7 (bstep bA hb8)
    have hq : rn s [y, ⟨(ovr x y).p, x.c, x.put⟩] = rn s [x, ⟨(ovr y x).p, y.c, y.put⟩] := HEQ.out
    rw [hq]
    clear gx x0 x1 x2 gq q0 q1 q2 hq L2 bA hb8
    go_wp2_with fail
    go_ret
    exact ⟨ret_bool (by simp), k8⟩
end Go.Proofs.Ytincfcjiodooiaa
