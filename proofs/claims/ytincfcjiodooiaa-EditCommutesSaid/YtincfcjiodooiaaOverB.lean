/-
  The walk of edit.Over: an edit turned over another one. Conditions: all numbers are small. Nothing that was there is changed.
-/
import Derived.Test.YtincfcjiodooiaaOver
namespace Go.Proofs.Ytincfcjiodooiaa
open Go.RowKit
set_option linter.unusedVariables false

def rt (x y : Ed) : Bool := decide (x.p = y.p) && (decide (y.c = 0) && (decide (0 < x.c) || gt x.put y.put))
def ovr (x y : Ed) : Ed := ⟨mv y.p y.c y.put.size x.p (rt x y), x.c, x.put⟩
theorem ovr_in (n : Nat) (x y : Ed) (hx : x.p + x.c ≤ n) (hy : y.p + y.c ≤ n) (h : ¬ clash x y) : (ovr x y).p + x.c ≤ n - y.c + y.put.size := by
  obtain ⟨p, c, put⟩ := x
  obtain ⟨q, d, qut⟩ := y
  unfold clash noth wi at h
  simp only at hx hy h
  show mv q d qut.size p (rt _ _) + c ≤ n - d + qut.size
  generalize hr : rt ⟨p, c, put⟩ ⟨q, d, qut⟩ = r
  unfold rt at hr
  simp only at hr
  unfold mv
  by_cases h1 : p < q
  · rw [if_pos h1]; omega
  · rw [if_neg h1]
    by_cases h2 : (d = 0 ∧ q < p) ∨ (0 < d ∧ q + d ≤ p)
    · rw [if_pos h2]; omega
    · rw [if_neg h2]
      cases r
      · simp only [Bool.false_eq_true, if_false]; omega
      · simp only [if_true]
        simp only [Bool.and_eq_true, decide_eq_true_eq] at hr
        omega
def OvPost (x y : Ed) (w : World) (e : Ending) (w' : World) : Prop :=
  e = .returned (.tuple (if clash x y then #[.agg #[.int .i64 0, .int .i64 0, .string ⟨#[]⟩], .int .i64 10] else #[edv (ovr x y), .int .i64 0])) ∧ Below w.heap.size w w'
set_option maxRecDepth 100000 in
set_option maxHeartbeats 4000000 in
theorem over_ne (n p c q d : Nat) (put qut : ByteArray) (w : World) (hn : n ≤ 500) (hx : p + c ≤ n) (hy : q + d ≤ n) (hxp : put.size ≤ 20) (hyp : qut.size ≤ 20)
    (hr : rt ⟨p, c, put⟩ ⟨q, d, qut⟩ = false) (e1 : ((p : Int) == (q : Int)) = false) :
    Calls Try.prog 22 #[.int .i64 n, .agg #[.int .i64 p, .int .i64 (c : Int), .string put], .agg #[.int .i64 (q : Int), .int .i64 (d : Int), .string qut]] w (OvPost ⟨p, c, put⟩ ⟨q, d, qut⟩ w) := by
  have OV := Lib.hid (ovr_in n ⟨p, c, put⟩ ⟨q, d, qut⟩ hx hy)
  have cl : ∀ W, Calls Try.prog 45 #[.agg #[.int .i64 p, .int .i64 (c : Int), .string put], .agg #[.int .i64 (q : Int), .int .i64 (d : Int), .string qut]] W fun z w' => z = .returned (.bool (decide (clash ⟨p, c, put⟩ ⟨q, d, qut⟩))) ∧ Below W.heap.size W w' :=
    fun W => clash_any ⟨p, c, put⟩ ⟨q, d, qut⟩ W (by show p ≤ _; omega) (by show c ≤ _; omega) (by show q ≤ _; omega) (by show d ≤ _; omega)
  have CL := Lib.hid cl
  have ck1 : ∀ W, Calls Try.prog 44 #[.int .i64 n, .agg #[.int .i64 p, .int .i64 (c : Int), .string put]] W fun e w' => e = .returned (.int .i64 0) ∧ Below W.heap.size W w' := fun W => check_any n p c put W hx (by omega) (by omega)
  have ck2 : ∀ W, Calls Try.prog 44 #[.int .i64 n, .agg #[.int .i64 (q : Int), .int .i64 (d : Int), .string qut]] W fun e w' => e = .returned (.int .i64 0) ∧ Below W.heap.size W w' := fun W => check_any n q d qut W hy (by omega) (by omega)
  have CK1 := Lib.hid ck1
  have CK2 := Lib.hid ck2
  clear cl ck1 ck2
  have i0 : ∀ W, (Instr.index 93 (.agg #[.int .i64 p, .int .i64 (c : Int), .string put, .int .i64 (q : Int), .int .i64 (d : Int), .string qut]) (.int .i64 0)).run Try.prog W = .ok (.agg #[.int .i64 p, .int .i64 (c : Int), .string put]) W := fun _ => by kernel_rfl
  have i1 : ∀ W, (Instr.index 93 (.agg #[.int .i64 p, .int .i64 (c : Int), .string put, .int .i64 (q : Int), .int .i64 (d : Int), .string qut]) (.int .i64 1)).run Try.prog W = .ok (.agg #[.int .i64 (q : Int), .int .i64 (d : Int), .string qut]) W := fun _ => by kernel_rfl
  have HR := Lib.hid hr
  clear hr
  obtain ⟨V, hV⟩ : ∃ V : World, V = ((w.alloc (Obj.cells #[.int .i64 p, .int .i64 (c : Int), .string put] 38)).alloc (Obj.cells #[.int .i64 (q : Int), .int .i64 (d : Int), .string qut] 38)).alloc (Obj.cells #[.int .i64 0, .int .i64 0, .string ⟨#[]⟩] 38) := ⟨_, rfl⟩
  have hz : V.heap.size = w.heap.size + 1 + 1 + 1 := by rw [hV]; simp
  have hA : V.cell? ⟨w.heap.size, 0, none⟩ = some (.int .i64 p) ∧ V.cell? ⟨w.heap.size, 1, none⟩ = some (.int .i64 (c : Int)) ∧ V.cell? ⟨w.heap.size, 2, none⟩ = some (.string put) := by rw [hV]; simp [go_sem]
  have hB : V.cell? ⟨w.heap.size + 1, 0, none⟩ = some (.int .i64 (q : Int)) ∧ V.cell? ⟨w.heap.size + 1, 1, none⟩ = some (.int .i64 (d : Int)) ∧ V.cell? ⟨w.heap.size + 1, 2, none⟩ = some (.string qut) := by rw [hV]; simp [go_sem]
  have hC : V.cell? ⟨w.heap.size + 1 + 1, 0, none⟩ = some (.int .i64 0) ∧ V.cell? ⟨w.heap.size + 1 + 1, 1, none⟩ = some (.int .i64 0) ∧ V.cell? ⟨w.heap.size + 1 + 1, 2, none⟩ = some (.string ⟨#[]⟩) := by rw [hV]; simp [go_sem]
  have hF : V.frozen? ⟨w.heap.size + 1 + 1, 0, none⟩ = false ∧ V.frozen? ⟨w.heap.size + 1 + 1, 1, none⟩ = false ∧ V.frozen? ⟨w.heap.size + 1 + 1, 2, none⟩ = false := by rw [hV]; simp [go_sem]
  have hK : Below w.heap.size w V := by rw [hV]; exact (((Below.refl _ _).alloc (Nat.le_refl _) _).alloc (by simp) _).alloc (by simp; omega) _
  have HV := Lib.hid hV
  have HA := Lib.hid hA
  have HB := Lib.hid hB
  have HC := Lib.hid hC
  have HF := Lib.hid hF
  clear hV hA hB hC hF
  go_enter Try.func22, Try.ntmps22
  go_wp2_with fail
  refine wp_loop_rounds 3 ?_
  rw [rounds_succ]
  go_wp2_with fail
  rw [← HV.out]
  refine (CK1.out _).mono ?_
  rintro e w1 ⟨rfl, hb1⟩
  have K1 := Lib.hid (bstep_alloc hb1)
  clear hb1 CK1
  go_wp2_with fail
  rw [rounds_succ]
  go_wp2_with fail
  refine (CK2.out _).mono ?_
  rintro e w2 ⟨rfl, hb2⟩
  have k2 := bstep K1.out (bstep_alloc hb2)
  have hz2 : w.heap.size + 1 + 1 < w2.heap.size := by have := k2.size; omega
  obtain ⟨A0, A1, A2⟩ := three_below k2 (by omega) HA.out
  obtain ⟨B0, B1, B2⟩ := three_below k2 (by omega) HB.out
  have K2 := Lib.hid k2
  clear hb2 K1 CK2 k2
  go_wp2_with fail
  rw [rounds_succ]
  go_wp2_with fail
  refine (CL.out _).mono ?_
  rintro e w3 ⟨rfl, hb3⟩
  have k3 := bstep K2.out hb3
  have hz3 : w.heap.size + 1 + 1 < w3.heap.size := by have := k3.size; omega
  obtain ⟨A0', A1', A2'⟩ := three_below k3 (by omega) HA.out
  obtain ⟨B0', B1', B2'⟩ := three_below k3 (by omega) HB.out
  obtain ⟨C0, C1, C2⟩ := three_below k3 (by omega) HC.out
  obtain ⟨F0, F1, F2⟩ : w3.frozen? ⟨w.heap.size + 1 + 1, 0, none⟩ = false ∧ w3.frozen? ⟨w.heap.size + 1 + 1, 1, none⟩ = false ∧ w3.frozen? ⟨w.heap.size + 1 + 1, 2, none⟩ = false :=
    ⟨(k3.frozen (p := ⟨w.heap.size + 1 + 1, 0, none⟩) (by show w.heap.size + 1 + 1 < _; omega)).trans HF.out.1, (k3.frozen (p := ⟨w.heap.size + 1 + 1, 1, none⟩) (by show w.heap.size + 1 + 1 < _; omega)).trans HF.out.2.1, (k3.frozen (p := ⟨w.heap.size + 1 + 1, 2, none⟩) (by show w.heap.size + 1 + 1 < _; omega)).trans HF.out.2.2⟩
  have k4 := hK.trans (k3.mono (by omega))
  clear hb3 K2 A0 A1 A2 B0 B1 B2 k3 CL i0 i1
  by_cases hcl : clash ⟨p, c, put⟩ ⟨q, d, qut⟩
  · have HCL := Lib.hid hcl
    rw [decide_eq_true hcl]
    clear hcl OV
    go_wp2_with fail
    refine bodyPost_ret (v := .tuple #[.agg #[.int .i64 0, .int .i64 0, .string ⟨#[]⟩], .int .i64 10]) (by simp [results, Try.results22, go_sem, C0, C1, C2]) rfl ⟨by rw [if_pos HCL.out], ?_⟩
    exact ((k4.setCell (by simp; omega) _).setCell (by simp; omega) _).setCell (by simp; omega) _
  · have HOV := Lib.hid (OV.out hcl)
    have HCL := Lib.hid hcl
    rw [decide_eq_false hcl]
    clear hcl OV
    have g0 : w.heap.size < w3.heap.size := by omega
    have g1 : w.heap.size + 1 < w3.heap.size := by omega
    have HM := Lib.hid (show (ovr ⟨p, c, put⟩ ⟨q, d, qut⟩).p = mv q d qut.size p false by rw [← HR.out]; rfl)
    have mvr : ∀ W, Calls Try.prog 46 #[.agg #[.int .i64 (q : Int), .int .i64 (d : Int), .string qut], .int .i64 p, .bool false] W fun e w' => e = .returned (.int .i64 (mv q d qut.size p false)) ∧ Below W.heap.size W w' := fun W => moved_any q d qut p false W (by omega) (by omega) (by omega) (by omega)
    have MVR := Lib.hid mvr
    clear mvr
    have hov := HOV.out
    rw [HM.out] at hov
    generalize mv q d qut.size p false = m at *
    have hm : m + c ≤ n - d + qut.size := hov
    have ck : ∀ W, Calls Try.prog 44 #[.int .i64 ((n : Int) - (d : Int) + (qut.size : Int)), .agg #[.int .i64 m, .int .i64 (c : Int), .string put]] W fun e w' => e = .returned (.int .i64 0) ∧ Below W.heap.size W w' := by
      intro W
      have := check_any (n - d + qut.size) m c put W hm (by omega) (by omega)
      rwa [show ((n - d + qut.size : Nat) : Int) = ((n : Int) - (d : Int) + (qut.size : Int)) by omega] at this
    have CK := Lib.hid ck
    clear ck hov HOV
    go_wp2_with fail
    refine (MVR.out _).mono ?_
    rintro e w4 ⟨rfl, hb4⟩
    have n3 := (Blk.new w3 38 #[.int .i64 (p : Int), .int .i64 (c : Int), .string put]).below hb4 (by simp)
    have k5 := bstep_alloc hb4
    have N0 : w4.cell? ⟨w3.heap.size, 0, none⟩ = some (.int .i64 (p : Int)) := by rw [n3.cell]; rfl
    have N1 : w4.cell? ⟨w3.heap.size, 1, none⟩ = some (.int .i64 (c : Int)) := by rw [n3.cell]; rfl
    have N2 : w4.cell? ⟨w3.heap.size, 2, none⟩ = some (.string put) := by rw [n3.cell]; rfl
    have G0 := n3.frozen 0
    have nl := n3.lt
    obtain ⟨B0, B1, B2⟩ := three_below k5 g1 ⟨B0', B1', B2'⟩
    have HC4 := Lib.hid (three_below k5 hz3 ⟨C0, C1, C2⟩)
    have F4 : w4.frozen? ⟨w.heap.size + 1 + 1, 0, none⟩ = false ∧ w4.frozen? ⟨w.heap.size + 1 + 1, 1, none⟩ = false ∧ w4.frozen? ⟨w.heap.size + 1 + 1, 2, none⟩ = false :=
      ⟨(k5.frozen (p := ⟨w.heap.size + 1 + 1, 0, none⟩) hz3).trans F0, (k5.frozen (p := ⟨w.heap.size + 1 + 1, 1, none⟩) hz3).trans F1, (k5.frozen (p := ⟨w.heap.size + 1 + 1, 2, none⟩) hz3).trans F2⟩
    have HF4 := Lib.hid F4
    have k6 := bstep k4 k5
    have hm3 : ¬ (w3.heap.size = w.heap.size + 1) := by omega
    have hm4 : ¬ (w3.heap.size = w.heap.size + 1 + 1) := by omega
    clear A0' A1' A2' B0' B1' B2' C0 C1 C2 F0 F1 F2 F4 hb4 n3 k5 k4 HA HB HC HF HV hK hz
    go_wp2_with fail
    refine (CK.out _).mono ?_
    rintro e w5 ⟨rfl, hb5⟩
    have k7 := bstep (k6.setCell (p := ⟨w3.heap.size, 0, none⟩) (by show w.heap.size ≤ w3.heap.size; omega) (.int .i64 (m : Int))) hb5
    have L0 : w5.cell? ⟨w3.heap.size, 0, none⟩ = some (.int .i64 (m : Int)) := (hb5.cell (p := ⟨w3.heap.size, 0, none⟩) (by simpa using nl)).trans (by simp [go_sem, N0])
    have L1 : w5.cell? ⟨w3.heap.size, 1, none⟩ = some (.int .i64 (c : Int)) := (hb5.cell (p := ⟨w3.heap.size, 1, none⟩) (by simpa using nl)).trans (by simp [go_sem, N1])
    have L2 : w5.cell? ⟨w3.heap.size, 2, none⟩ = some (.string put) := (hb5.cell (p := ⟨w3.heap.size, 2, none⟩) (by simpa using nl)).trans (by simp [go_sem, N2])
    have cf : ∀ o : Nat, w5.cell? ⟨w.heap.size + 1 + 1, o, none⟩ = w4.cell? ⟨w.heap.size + 1 + 1, o, none⟩ := fun o => (hb5.cell (p := ⟨w.heap.size + 1 + 1, o, none⟩) (by simp; omega)).trans (World.cell?_setCell_other _ _ _ _ (by simp))
    have ff : ∀ o : Nat, w5.frozen? ⟨w.heap.size + 1 + 1, o, none⟩ = w4.frozen? ⟨w.heap.size + 1 + 1, o, none⟩ := fun o => (hb5.frozen (p := ⟨w.heap.size + 1 + 1, o, none⟩) (by simp; omega)).trans (by simp [go_sem])
    obtain ⟨C0, C1, C2⟩ : w5.cell? ⟨w.heap.size + 1 + 1, 0, none⟩ = some (.int .i64 0) ∧ w5.cell? ⟨w.heap.size + 1 + 1, 1, none⟩ = some (.int .i64 0) ∧ w5.cell? ⟨w.heap.size + 1 + 1, 2, none⟩ = some (.string ⟨#[]⟩) := by rw [cf, cf, cf]; exact HC4.out
    obtain ⟨F0, F1, F2⟩ : w5.frozen? ⟨w.heap.size + 1 + 1, 0, none⟩ = false ∧ w5.frozen? ⟨w.heap.size + 1 + 1, 1, none⟩ = false ∧ w5.frozen? ⟨w.heap.size + 1 + 1, 2, none⟩ = false := by rw [ff, ff, ff]; exact HF4.out
    clear N0 N1 N2 G0 B0 B1 B2 HC4 HF4 hb5 k6 cf ff CK
    go_wp2_with fail
    refine bodyPost_ret (v := .tuple #[.agg #[.int .i64 m, .int .i64 (c : Int), .string put], .int .i64 0]) (by simp [results, Try.results22, go_sem, C0, C1, C2]) rfl ⟨by rw [if_neg HCL.out, ← HM.out]; rfl, ?_⟩
    exact ((k7.setCell (by simp; omega) _).setCell (by simp; omega) _).setCell (by simp; omega) _
set_option maxRecDepth 100000 in
set_option maxHeartbeats 4000000 in
theorem over_cut (n p c q d : Nat) (put qut : ByteArray) (w : World) (hn : n ≤ 500) (hx : p + c ≤ n) (hy : p + d ≤ n) (hxp : put.size ≤ 20) (hyp : qut.size ≤ 20)
    (hr : rt ⟨p, c, put⟩ ⟨p, d, qut⟩ = false) (e1 : ((d : Int) == 0) = false) :
    Calls Try.prog 22 #[.int .i64 n, .agg #[.int .i64 p, .int .i64 (c : Int), .string put], .agg #[.int .i64 (p : Int), .int .i64 (d : Int), .string qut]] w (OvPost ⟨p, c, put⟩ ⟨p, d, qut⟩ w) := by
  have OV := Lib.hid (ovr_in n ⟨p, c, put⟩ ⟨p, d, qut⟩ hx hy)
  have cl : ∀ W, Calls Try.prog 45 #[.agg #[.int .i64 p, .int .i64 (c : Int), .string put], .agg #[.int .i64 (p : Int), .int .i64 (d : Int), .string qut]] W fun z w' => z = .returned (.bool (decide (clash ⟨p, c, put⟩ ⟨p, d, qut⟩))) ∧ Below W.heap.size W w' :=
    fun W => clash_any ⟨p, c, put⟩ ⟨p, d, qut⟩ W (by show p ≤ _; omega) (by show c ≤ _; omega) (by show p ≤ _; omega) (by show d ≤ _; omega)
  have CL := Lib.hid cl
  have ck1 : ∀ W, Calls Try.prog 44 #[.int .i64 n, .agg #[.int .i64 p, .int .i64 (c : Int), .string put]] W fun e w' => e = .returned (.int .i64 0) ∧ Below W.heap.size W w' := fun W => check_any n p c put W hx (by omega) (by omega)
  have ck2 : ∀ W, Calls Try.prog 44 #[.int .i64 n, .agg #[.int .i64 (p : Int), .int .i64 (d : Int), .string qut]] W fun e w' => e = .returned (.int .i64 0) ∧ Below W.heap.size W w' := fun W => check_any n p d qut W hy (by omega) (by omega)
  have CK1 := Lib.hid ck1
  have CK2 := Lib.hid ck2
  clear cl ck1 ck2
  have i0 : ∀ W, (Instr.index 93 (.agg #[.int .i64 p, .int .i64 (c : Int), .string put, .int .i64 (p : Int), .int .i64 (d : Int), .string qut]) (.int .i64 0)).run Try.prog W = .ok (.agg #[.int .i64 p, .int .i64 (c : Int), .string put]) W := fun _ => by kernel_rfl
  have i1 : ∀ W, (Instr.index 93 (.agg #[.int .i64 p, .int .i64 (c : Int), .string put, .int .i64 (p : Int), .int .i64 (d : Int), .string qut]) (.int .i64 1)).run Try.prog W = .ok (.agg #[.int .i64 (p : Int), .int .i64 (d : Int), .string qut]) W := fun _ => by kernel_rfl
  have HR := Lib.hid hr
  clear hr
  obtain ⟨V, hV⟩ : ∃ V : World, V = ((w.alloc (Obj.cells #[.int .i64 p, .int .i64 (c : Int), .string put] 38)).alloc (Obj.cells #[.int .i64 (p : Int), .int .i64 (d : Int), .string qut] 38)).alloc (Obj.cells #[.int .i64 0, .int .i64 0, .string ⟨#[]⟩] 38) := ⟨_, rfl⟩
  have hz : V.heap.size = w.heap.size + 1 + 1 + 1 := by rw [hV]; simp
  have hA : V.cell? ⟨w.heap.size, 0, none⟩ = some (.int .i64 p) ∧ V.cell? ⟨w.heap.size, 1, none⟩ = some (.int .i64 (c : Int)) ∧ V.cell? ⟨w.heap.size, 2, none⟩ = some (.string put) := by rw [hV]; simp [go_sem]
  have hB : V.cell? ⟨w.heap.size + 1, 0, none⟩ = some (.int .i64 (p : Int)) ∧ V.cell? ⟨w.heap.size + 1, 1, none⟩ = some (.int .i64 (d : Int)) ∧ V.cell? ⟨w.heap.size + 1, 2, none⟩ = some (.string qut) := by rw [hV]; simp [go_sem]
  have hC : V.cell? ⟨w.heap.size + 1 + 1, 0, none⟩ = some (.int .i64 0) ∧ V.cell? ⟨w.heap.size + 1 + 1, 1, none⟩ = some (.int .i64 0) ∧ V.cell? ⟨w.heap.size + 1 + 1, 2, none⟩ = some (.string ⟨#[]⟩) := by rw [hV]; simp [go_sem]
  have hF : V.frozen? ⟨w.heap.size + 1 + 1, 0, none⟩ = false ∧ V.frozen? ⟨w.heap.size + 1 + 1, 1, none⟩ = false ∧ V.frozen? ⟨w.heap.size + 1 + 1, 2, none⟩ = false := by rw [hV]; simp [go_sem]
  have hK : Below w.heap.size w V := by rw [hV]; exact (((Below.refl _ _).alloc (Nat.le_refl _) _).alloc (by simp) _).alloc (by simp; omega) _
  have HV := Lib.hid hV
  have HA := Lib.hid hA
  have HB := Lib.hid hB
  have HC := Lib.hid hC
  have HF := Lib.hid hF
  clear hV hA hB hC hF
  go_enter Try.func22, Try.ntmps22
  go_wp2_with fail
  refine wp_loop_rounds 3 ?_
  rw [rounds_succ]
  go_wp2_with fail
  rw [← HV.out]
  refine (CK1.out _).mono ?_
  rintro e w1 ⟨rfl, hb1⟩
  have K1 := Lib.hid (bstep_alloc hb1)
  clear hb1 CK1
  go_wp2_with fail
  rw [rounds_succ]
  go_wp2_with fail
  refine (CK2.out _).mono ?_
  rintro e w2 ⟨rfl, hb2⟩
  have k2 := bstep K1.out (bstep_alloc hb2)
  have hz2 : w.heap.size + 1 + 1 < w2.heap.size := by have := k2.size; omega
  obtain ⟨A0, A1, A2⟩ := three_below k2 (by omega) HA.out
  obtain ⟨B0, B1, B2⟩ := three_below k2 (by omega) HB.out
  have K2 := Lib.hid k2
  clear hb2 K1 CK2 k2
  go_wp2_with fail
  rw [rounds_succ]
  go_wp2_with fail
  refine (CL.out _).mono ?_
  rintro e w3 ⟨rfl, hb3⟩
  have k3 := bstep K2.out hb3
  have hz3 : w.heap.size + 1 + 1 < w3.heap.size := by have := k3.size; omega
  obtain ⟨A0', A1', A2'⟩ := three_below k3 (by omega) HA.out
  obtain ⟨B0', B1', B2'⟩ := three_below k3 (by omega) HB.out
  obtain ⟨C0, C1, C2⟩ := three_below k3 (by omega) HC.out
  obtain ⟨F0, F1, F2⟩ : w3.frozen? ⟨w.heap.size + 1 + 1, 0, none⟩ = false ∧ w3.frozen? ⟨w.heap.size + 1 + 1, 1, none⟩ = false ∧ w3.frozen? ⟨w.heap.size + 1 + 1, 2, none⟩ = false :=
    ⟨(k3.frozen (p := ⟨w.heap.size + 1 + 1, 0, none⟩) (by show w.heap.size + 1 + 1 < _; omega)).trans HF.out.1, (k3.frozen (p := ⟨w.heap.size + 1 + 1, 1, none⟩) (by show w.heap.size + 1 + 1 < _; omega)).trans HF.out.2.1, (k3.frozen (p := ⟨w.heap.size + 1 + 1, 2, none⟩) (by show w.heap.size + 1 + 1 < _; omega)).trans HF.out.2.2⟩
  have k4 := hK.trans (k3.mono (by omega))
  clear hb3 K2 A0 A1 A2 B0 B1 B2 k3 CL i0 i1
  by_cases hcl : clash ⟨p, c, put⟩ ⟨p, d, qut⟩
  · have HCL := Lib.hid hcl
    rw [decide_eq_true hcl]
    clear hcl OV
    go_wp2_with fail
    refine bodyPost_ret (v := .tuple #[.agg #[.int .i64 0, .int .i64 0, .string ⟨#[]⟩], .int .i64 10]) (by simp [results, Try.results22, go_sem, C0, C1, C2]) rfl ⟨by rw [if_pos HCL.out], ?_⟩
    exact ((k4.setCell (by simp; omega) _).setCell (by simp; omega) _).setCell (by simp; omega) _
  · have HOV := Lib.hid (OV.out hcl)
    have HCL := Lib.hid hcl
    rw [decide_eq_false hcl]
    clear hcl OV
    have g0 : w.heap.size < w3.heap.size := by omega
    have g1 : w.heap.size + 1 < w3.heap.size := by omega
    have HM := Lib.hid (show (ovr ⟨p, c, put⟩ ⟨p, d, qut⟩).p = mv p d qut.size p false by rw [← HR.out]; rfl)
    have mvr : ∀ W, Calls Try.prog 46 #[.agg #[.int .i64 (p : Int), .int .i64 (d : Int), .string qut], .int .i64 p, .bool false] W fun e w' => e = .returned (.int .i64 (mv p d qut.size p false)) ∧ Below W.heap.size W w' := fun W => moved_any p d qut p false W (by omega) (by omega) (by omega) (by omega)
    have MVR := Lib.hid mvr
    clear mvr
    have hov := HOV.out
    rw [HM.out] at hov
    generalize mv p d qut.size p false = m at *
    have hm : m + c ≤ n - d + qut.size := hov
    have ck : ∀ W, Calls Try.prog 44 #[.int .i64 ((n : Int) - (d : Int) + (qut.size : Int)), .agg #[.int .i64 m, .int .i64 (c : Int), .string put]] W fun e w' => e = .returned (.int .i64 0) ∧ Below W.heap.size W w' := by
      intro W
      have := check_any (n - d + qut.size) m c put W hm (by omega) (by omega)
      rwa [show ((n - d + qut.size : Nat) : Int) = ((n : Int) - (d : Int) + (qut.size : Int)) by omega] at this
    have CK := Lib.hid ck
    clear ck hov HOV
    go_wp2_with fail
    refine (MVR.out _).mono ?_
    rintro e w4 ⟨rfl, hb4⟩
    have n3 := (Blk.new w3 38 #[.int .i64 (p : Int), .int .i64 (c : Int), .string put]).below hb4 (by simp)
    have k5 := bstep_alloc hb4
    have N0 : w4.cell? ⟨w3.heap.size, 0, none⟩ = some (.int .i64 (p : Int)) := by rw [n3.cell]; rfl
    have N1 : w4.cell? ⟨w3.heap.size, 1, none⟩ = some (.int .i64 (c : Int)) := by rw [n3.cell]; rfl
    have N2 : w4.cell? ⟨w3.heap.size, 2, none⟩ = some (.string put) := by rw [n3.cell]; rfl
    have G0 := n3.frozen 0
    have nl := n3.lt
    obtain ⟨B0, B1, B2⟩ := three_below k5 g1 ⟨B0', B1', B2'⟩
    have HC4 := Lib.hid (three_below k5 hz3 ⟨C0, C1, C2⟩)
    have F4 : w4.frozen? ⟨w.heap.size + 1 + 1, 0, none⟩ = false ∧ w4.frozen? ⟨w.heap.size + 1 + 1, 1, none⟩ = false ∧ w4.frozen? ⟨w.heap.size + 1 + 1, 2, none⟩ = false :=
      ⟨(k5.frozen (p := ⟨w.heap.size + 1 + 1, 0, none⟩) hz3).trans F0, (k5.frozen (p := ⟨w.heap.size + 1 + 1, 1, none⟩) hz3).trans F1, (k5.frozen (p := ⟨w.heap.size + 1 + 1, 2, none⟩) hz3).trans F2⟩
    have HF4 := Lib.hid F4
    have k6 := bstep k4 k5
    have hm3 : ¬ (w3.heap.size = w.heap.size + 1) := by omega
    have hm4 : ¬ (w3.heap.size = w.heap.size + 1 + 1) := by omega
    clear A0' A1' A2' B0' B1' B2' C0 C1 C2 F0 F1 F2 F4 hb4 n3 k5 k4 HA HB HC HF HV hK hz
    go_wp2_with fail
    refine (CK.out _).mono ?_
    rintro e w5 ⟨rfl, hb5⟩
    have k7 := bstep (k6.setCell (p := ⟨w3.heap.size, 0, none⟩) (by show w.heap.size ≤ w3.heap.size; omega) (.int .i64 (m : Int))) hb5
    have L0 : w5.cell? ⟨w3.heap.size, 0, none⟩ = some (.int .i64 (m : Int)) := (hb5.cell (p := ⟨w3.heap.size, 0, none⟩) (by simpa using nl)).trans (by simp [go_sem, N0])
    have L1 : w5.cell? ⟨w3.heap.size, 1, none⟩ = some (.int .i64 (c : Int)) := (hb5.cell (p := ⟨w3.heap.size, 1, none⟩) (by simpa using nl)).trans (by simp [go_sem, N1])
    have L2 : w5.cell? ⟨w3.heap.size, 2, none⟩ = some (.string put) := (hb5.cell (p := ⟨w3.heap.size, 2, none⟩) (by simpa using nl)).trans (by simp [go_sem, N2])
    have cf : ∀ o : Nat, w5.cell? ⟨w.heap.size + 1 + 1, o, none⟩ = w4.cell? ⟨w.heap.size + 1 + 1, o, none⟩ := fun o => (hb5.cell (p := ⟨w.heap.size + 1 + 1, o, none⟩) (by simp; omega)).trans (World.cell?_setCell_other _ _ _ _ (by simp))
    have ff : ∀ o : Nat, w5.frozen? ⟨w.heap.size + 1 + 1, o, none⟩ = w4.frozen? ⟨w.heap.size + 1 + 1, o, none⟩ := fun o => (hb5.frozen (p := ⟨w.heap.size + 1 + 1, o, none⟩) (by simp; omega)).trans (by simp [go_sem])
    obtain ⟨C0, C1, C2⟩ : w5.cell? ⟨w.heap.size + 1 + 1, 0, none⟩ = some (.int .i64 0) ∧ w5.cell? ⟨w.heap.size + 1 + 1, 1, none⟩ = some (.int .i64 0) ∧ w5.cell? ⟨w.heap.size + 1 + 1, 2, none⟩ = some (.string ⟨#[]⟩) := by rw [cf, cf, cf]; exact HC4.out
    obtain ⟨F0, F1, F2⟩ : w5.frozen? ⟨w.heap.size + 1 + 1, 0, none⟩ = false ∧ w5.frozen? ⟨w.heap.size + 1 + 1, 1, none⟩ = false ∧ w5.frozen? ⟨w.heap.size + 1 + 1, 2, none⟩ = false := by rw [ff, ff, ff]; exact HF4.out
    clear N0 N1 N2 G0 B0 B1 B2 HC4 HF4 hb5 k6 cf ff CK
    go_wp2_with fail
    refine bodyPost_ret (v := .tuple #[.agg #[.int .i64 m, .int .i64 (c : Int), .string put], .int .i64 0]) (by simp [results, Try.results22, go_sem, C0, C1, C2]) rfl ⟨by rw [if_neg HCL.out, ← HM.out]; rfl, ?_⟩
    exact ((k7.setCell (by simp; omega) _).setCell (by simp; omega) _).setCell (by simp; omega) _
set_option maxRecDepth 100000 in
set_option maxHeartbeats 4000000 in
theorem over_ins (n p c q d : Nat) (put qut : ByteArray) (w : World) (hn : n ≤ 500) (hx : p + c ≤ n) (hy : p + 0 ≤ n) (hxp : put.size ≤ 20) (hyp : qut.size ≤ 20)
    (hr : rt ⟨p, c, put⟩ ⟨p, 0, qut⟩ = true) (e1 : 0 < c) :
    Calls Try.prog 22 #[.int .i64 n, .agg #[.int .i64 p, .int .i64 (c : Int), .string put], .agg #[.int .i64 (p : Int), .int .i64 0, .string qut]] w (OvPost ⟨p, c, put⟩ ⟨p, 0, qut⟩ w) := by
  have OV := Lib.hid (ovr_in n ⟨p, c, put⟩ ⟨p, 0, qut⟩ hx hy)
  have cl : ∀ W, Calls Try.prog 45 #[.agg #[.int .i64 p, .int .i64 (c : Int), .string put], .agg #[.int .i64 (p : Int), .int .i64 0, .string qut]] W fun z w' => z = .returned (.bool (decide (clash ⟨p, c, put⟩ ⟨p, 0, qut⟩))) ∧ Below W.heap.size W w' :=
    fun W => clash_any ⟨p, c, put⟩ ⟨p, 0, qut⟩ W (by show p ≤ _; omega) (by show c ≤ _; omega) (by show p ≤ _; omega) (by show 0 ≤ _; omega)
  have CL := Lib.hid cl
  have ck1 : ∀ W, Calls Try.prog 44 #[.int .i64 n, .agg #[.int .i64 p, .int .i64 (c : Int), .string put]] W fun e w' => e = .returned (.int .i64 0) ∧ Below W.heap.size W w' := fun W => check_any n p c put W hx (by omega) (by omega)
  have ck2 : ∀ W, Calls Try.prog 44 #[.int .i64 n, .agg #[.int .i64 (p : Int), .int .i64 0, .string qut]] W fun e w' => e = .returned (.int .i64 0) ∧ Below W.heap.size W w' := fun W => check_any n p 0 qut W hy (by omega) (by omega)
  have CK1 := Lib.hid ck1
  have CK2 := Lib.hid ck2
  clear cl ck1 ck2
  have i0 : ∀ W, (Instr.index 93 (.agg #[.int .i64 p, .int .i64 (c : Int), .string put, .int .i64 (p : Int), .int .i64 0, .string qut]) (.int .i64 0)).run Try.prog W = .ok (.agg #[.int .i64 p, .int .i64 (c : Int), .string put]) W := fun _ => by kernel_rfl
  have i1 : ∀ W, (Instr.index 93 (.agg #[.int .i64 p, .int .i64 (c : Int), .string put, .int .i64 (p : Int), .int .i64 0, .string qut]) (.int .i64 1)).run Try.prog W = .ok (.agg #[.int .i64 (p : Int), .int .i64 0, .string qut]) W := fun _ => by kernel_rfl
  have HR := Lib.hid hr
  clear hr
  obtain ⟨V, hV⟩ : ∃ V : World, V = ((w.alloc (Obj.cells #[.int .i64 p, .int .i64 (c : Int), .string put] 38)).alloc (Obj.cells #[.int .i64 (p : Int), .int .i64 0, .string qut] 38)).alloc (Obj.cells #[.int .i64 0, .int .i64 0, .string ⟨#[]⟩] 38) := ⟨_, rfl⟩
  have hz : V.heap.size = w.heap.size + 1 + 1 + 1 := by rw [hV]; simp
  have hA : V.cell? ⟨w.heap.size, 0, none⟩ = some (.int .i64 p) ∧ V.cell? ⟨w.heap.size, 1, none⟩ = some (.int .i64 (c : Int)) ∧ V.cell? ⟨w.heap.size, 2, none⟩ = some (.string put) := by rw [hV]; simp [go_sem]
  have hB : V.cell? ⟨w.heap.size + 1, 0, none⟩ = some (.int .i64 (p : Int)) ∧ V.cell? ⟨w.heap.size + 1, 1, none⟩ = some (.int .i64 0) ∧ V.cell? ⟨w.heap.size + 1, 2, none⟩ = some (.string qut) := by rw [hV]; simp [go_sem]
  have hC : V.cell? ⟨w.heap.size + 1 + 1, 0, none⟩ = some (.int .i64 0) ∧ V.cell? ⟨w.heap.size + 1 + 1, 1, none⟩ = some (.int .i64 0) ∧ V.cell? ⟨w.heap.size + 1 + 1, 2, none⟩ = some (.string ⟨#[]⟩) := by rw [hV]; simp [go_sem]
  have hF : V.frozen? ⟨w.heap.size + 1 + 1, 0, none⟩ = false ∧ V.frozen? ⟨w.heap.size + 1 + 1, 1, none⟩ = false ∧ V.frozen? ⟨w.heap.size + 1 + 1, 2, none⟩ = false := by rw [hV]; simp [go_sem]
  have hK : Below w.heap.size w V := by rw [hV]; exact (((Below.refl _ _).alloc (Nat.le_refl _) _).alloc (by simp) _).alloc (by simp; omega) _
  have HV := Lib.hid hV
  have HA := Lib.hid hA
  have HB := Lib.hid hB
  have HC := Lib.hid hC
  have HF := Lib.hid hF
  clear hV hA hB hC hF
  go_enter Try.func22, Try.ntmps22
  go_wp2_with fail
  refine wp_loop_rounds 3 ?_
  rw [rounds_succ]
  go_wp2_with fail
  rw [← HV.out]
  refine (CK1.out _).mono ?_
  rintro e w1 ⟨rfl, hb1⟩
  have K1 := Lib.hid (bstep_alloc hb1)
  clear hb1 CK1
  go_wp2_with fail
  rw [rounds_succ]
  go_wp2_with fail
  refine (CK2.out _).mono ?_
  rintro e w2 ⟨rfl, hb2⟩
  have k2 := bstep K1.out (bstep_alloc hb2)
  have hz2 : w.heap.size + 1 + 1 < w2.heap.size := by have := k2.size; omega
  obtain ⟨A0, A1, A2⟩ := three_below k2 (by omega) HA.out
  obtain ⟨B0, B1, B2⟩ := three_below k2 (by omega) HB.out
  have K2 := Lib.hid k2
  clear hb2 K1 CK2 k2
  go_wp2_with fail
  rw [rounds_succ]
  go_wp2_with fail
  refine (CL.out _).mono ?_
  rintro e w3 ⟨rfl, hb3⟩
  have k3 := bstep K2.out hb3
  have hz3 : w.heap.size + 1 + 1 < w3.heap.size := by have := k3.size; omega
  obtain ⟨A0', A1', A2'⟩ := three_below k3 (by omega) HA.out
  obtain ⟨B0', B1', B2'⟩ := three_below k3 (by omega) HB.out
  obtain ⟨C0, C1, C2⟩ := three_below k3 (by omega) HC.out
  obtain ⟨F0, F1, F2⟩ : w3.frozen? ⟨w.heap.size + 1 + 1, 0, none⟩ = false ∧ w3.frozen? ⟨w.heap.size + 1 + 1, 1, none⟩ = false ∧ w3.frozen? ⟨w.heap.size + 1 + 1, 2, none⟩ = false :=
    ⟨(k3.frozen (p := ⟨w.heap.size + 1 + 1, 0, none⟩) (by show w.heap.size + 1 + 1 < _; omega)).trans HF.out.1, (k3.frozen (p := ⟨w.heap.size + 1 + 1, 1, none⟩) (by show w.heap.size + 1 + 1 < _; omega)).trans HF.out.2.1, (k3.frozen (p := ⟨w.heap.size + 1 + 1, 2, none⟩) (by show w.heap.size + 1 + 1 < _; omega)).trans HF.out.2.2⟩
  have k4 := hK.trans (k3.mono (by omega))
  clear hb3 K2 A0 A1 A2 B0 B1 B2 k3 CL i0 i1
  by_cases hcl : clash ⟨p, c, put⟩ ⟨p, 0, qut⟩
  · have HCL := Lib.hid hcl
    rw [decide_eq_true hcl]
    clear hcl OV
    go_wp2_with fail
    refine bodyPost_ret (v := .tuple #[.agg #[.int .i64 0, .int .i64 0, .string ⟨#[]⟩], .int .i64 10]) (by simp [results, Try.results22, go_sem, C0, C1, C2]) rfl ⟨by rw [if_pos HCL.out], ?_⟩
    exact ((k4.setCell (by simp; omega) _).setCell (by simp; omega) _).setCell (by simp; omega) _
  · have HOV := Lib.hid (OV.out hcl)
    have HCL := Lib.hid hcl
    rw [decide_eq_false hcl]
    clear hcl OV
    have g0 : w.heap.size < w3.heap.size := by omega
    have g1 : w.heap.size + 1 < w3.heap.size := by omega
    have HM := Lib.hid (show (ovr ⟨p, c, put⟩ ⟨p, 0, qut⟩).p = mv p 0 qut.size p true by rw [← HR.out]; rfl)
    have mvr : ∀ W, Calls Try.prog 46 #[.agg #[.int .i64 (p : Int), .int .i64 0, .string qut], .int .i64 p, .bool true] W fun e w' => e = .returned (.int .i64 (mv p 0 qut.size p true)) ∧ Below W.heap.size W w' := fun W => moved_any p 0 qut p true W (by omega) (by omega) (by omega) (by omega)
    have MVR := Lib.hid mvr
    clear mvr
    have hov := HOV.out
    rw [HM.out] at hov
    generalize mv p 0 qut.size p true = m at *
    have hm : m + c ≤ n - 0 + qut.size := hov
    have ck : ∀ W, Calls Try.prog 44 #[.int .i64 ((n : Int) + (qut.size : Int)), .agg #[.int .i64 m, .int .i64 (c : Int), .string put]] W fun e w' => e = .returned (.int .i64 0) ∧ Below W.heap.size W w' := by
      intro W
      have := check_any (n - 0 + qut.size) m c put W hm (by omega) (by omega)
      rwa [show ((n - 0 + qut.size : Nat) : Int) = ((n : Int) + (qut.size : Int)) by omega] at this
    have CK := Lib.hid ck
    clear ck hov HOV
    go_wp2_with fail
    refine (MVR.out _).mono ?_
    rintro e w4 ⟨rfl, hb4⟩
    have n3 := (Blk.new w3 38 #[.int .i64 (p : Int), .int .i64 (c : Int), .string put]).below hb4 (by simp)
    have k5 := bstep_alloc hb4
    have N0 : w4.cell? ⟨w3.heap.size, 0, none⟩ = some (.int .i64 (p : Int)) := by rw [n3.cell]; rfl
    have N1 : w4.cell? ⟨w3.heap.size, 1, none⟩ = some (.int .i64 (c : Int)) := by rw [n3.cell]; rfl
    have N2 : w4.cell? ⟨w3.heap.size, 2, none⟩ = some (.string put) := by rw [n3.cell]; rfl
    have G0 := n3.frozen 0
    have nl := n3.lt
    obtain ⟨B0, B1, B2⟩ := three_below k5 g1 ⟨B0', B1', B2'⟩
    have HC4 := Lib.hid (three_below k5 hz3 ⟨C0, C1, C2⟩)
    have F4 : w4.frozen? ⟨w.heap.size + 1 + 1, 0, none⟩ = false ∧ w4.frozen? ⟨w.heap.size + 1 + 1, 1, none⟩ = false ∧ w4.frozen? ⟨w.heap.size + 1 + 1, 2, none⟩ = false :=
      ⟨(k5.frozen (p := ⟨w.heap.size + 1 + 1, 0, none⟩) hz3).trans F0, (k5.frozen (p := ⟨w.heap.size + 1 + 1, 1, none⟩) hz3).trans F1, (k5.frozen (p := ⟨w.heap.size + 1 + 1, 2, none⟩) hz3).trans F2⟩
    have HF4 := Lib.hid F4
    have k6 := bstep k4 k5
    have hm3 : ¬ (w3.heap.size = w.heap.size + 1) := by omega
    have hm4 : ¬ (w3.heap.size = w.heap.size + 1 + 1) := by omega
    clear A0' A1' A2' B0' B1' B2' C0 C1 C2 F0 F1 F2 F4 hb4 n3 k5 k4 HA HB HC HF HV hK hz
    go_wp2_with fail
    refine (CK.out _).mono ?_
    rintro e w5 ⟨rfl, hb5⟩
    have k7 := bstep (k6.setCell (p := ⟨w3.heap.size, 0, none⟩) (by show w.heap.size ≤ w3.heap.size; omega) (.int .i64 (m : Int))) hb5
    have L0 : w5.cell? ⟨w3.heap.size, 0, none⟩ = some (.int .i64 (m : Int)) := (hb5.cell (p := ⟨w3.heap.size, 0, none⟩) (by simpa using nl)).trans (by simp [go_sem, N0])
    have L1 : w5.cell? ⟨w3.heap.size, 1, none⟩ = some (.int .i64 (c : Int)) := (hb5.cell (p := ⟨w3.heap.size, 1, none⟩) (by simpa using nl)).trans (by simp [go_sem, N1])
    have L2 : w5.cell? ⟨w3.heap.size, 2, none⟩ = some (.string put) := (hb5.cell (p := ⟨w3.heap.size, 2, none⟩) (by simpa using nl)).trans (by simp [go_sem, N2])
    have cf : ∀ o : Nat, w5.cell? ⟨w.heap.size + 1 + 1, o, none⟩ = w4.cell? ⟨w.heap.size + 1 + 1, o, none⟩ := fun o => (hb5.cell (p := ⟨w.heap.size + 1 + 1, o, none⟩) (by simp; omega)).trans (World.cell?_setCell_other _ _ _ _ (by simp))
    have ff : ∀ o : Nat, w5.frozen? ⟨w.heap.size + 1 + 1, o, none⟩ = w4.frozen? ⟨w.heap.size + 1 + 1, o, none⟩ := fun o => (hb5.frozen (p := ⟨w.heap.size + 1 + 1, o, none⟩) (by simp; omega)).trans (by simp [go_sem])
    obtain ⟨C0, C1, C2⟩ : w5.cell? ⟨w.heap.size + 1 + 1, 0, none⟩ = some (.int .i64 0) ∧ w5.cell? ⟨w.heap.size + 1 + 1, 1, none⟩ = some (.int .i64 0) ∧ w5.cell? ⟨w.heap.size + 1 + 1, 2, none⟩ = some (.string ⟨#[]⟩) := by rw [cf, cf, cf]; exact HC4.out
    obtain ⟨F0, F1, F2⟩ : w5.frozen? ⟨w.heap.size + 1 + 1, 0, none⟩ = false ∧ w5.frozen? ⟨w.heap.size + 1 + 1, 1, none⟩ = false ∧ w5.frozen? ⟨w.heap.size + 1 + 1, 2, none⟩ = false := by rw [ff, ff, ff]; exact HF4.out
    clear N0 N1 N2 G0 B0 B1 B2 HC4 HF4 hb5 k6 cf ff CK
    go_wp2_with fail
    refine bodyPost_ret (v := .tuple #[.agg #[.int .i64 m, .int .i64 (c : Int), .string put], .int .i64 0]) (by simp [results, Try.results22, go_sem, C0, C1, C2]) rfl ⟨by rw [if_neg HCL.out, ← HM.out]; rfl, ?_⟩
    exact ((k7.setCell (by simp; omega) _).setCell (by simp; omega) _).setCell (by simp; omega) _
set_option maxRecDepth 100000 in
set_option maxHeartbeats 4000000 in
theorem over_both (n p c q d : Nat) (put qut : ByteArray) (w : World) (hn : n ≤ 500) (hx : p + 0 ≤ n) (hy : p + 0 ≤ n) (hxp : put.size ≤ 20) (hyp : qut.size ≤ 20)
    (hr : rt ⟨p, 0, put⟩ ⟨p, 0, qut⟩ = (!Op.bytesLess put.toList qut.toList && !put.toList == qut.toList)) :
    Calls Try.prog 22 #[.int .i64 n, .agg #[.int .i64 p, .int .i64 0, .string put], .agg #[.int .i64 (p : Int), .int .i64 0, .string qut]] w (OvPost ⟨p, 0, put⟩ ⟨p, 0, qut⟩ w) := by
  have OV := Lib.hid (ovr_in n ⟨p, 0, put⟩ ⟨p, 0, qut⟩ hx hy)
  have cl : ∀ W, Calls Try.prog 45 #[.agg #[.int .i64 p, .int .i64 0, .string put], .agg #[.int .i64 (p : Int), .int .i64 0, .string qut]] W fun z w' => z = .returned (.bool (decide (clash ⟨p, 0, put⟩ ⟨p, 0, qut⟩))) ∧ Below W.heap.size W w' :=
    fun W => clash_any ⟨p, 0, put⟩ ⟨p, 0, qut⟩ W (by show p ≤ _; omega) (by show 0 ≤ _; omega) (by show p ≤ _; omega) (by show 0 ≤ _; omega)
  have CL := Lib.hid cl
  have ck1 : ∀ W, Calls Try.prog 44 #[.int .i64 n, .agg #[.int .i64 p, .int .i64 0, .string put]] W fun e w' => e = .returned (.int .i64 0) ∧ Below W.heap.size W w' := fun W => check_any n p 0 put W hx (by omega) (by omega)
  have ck2 : ∀ W, Calls Try.prog 44 #[.int .i64 n, .agg #[.int .i64 (p : Int), .int .i64 0, .string qut]] W fun e w' => e = .returned (.int .i64 0) ∧ Below W.heap.size W w' := fun W => check_any n p 0 qut W hy (by omega) (by omega)
  have CK1 := Lib.hid ck1
  have CK2 := Lib.hid ck2
  clear cl ck1 ck2
  have i0 : ∀ W, (Instr.index 93 (.agg #[.int .i64 p, .int .i64 0, .string put, .int .i64 (p : Int), .int .i64 0, .string qut]) (.int .i64 0)).run Try.prog W = .ok (.agg #[.int .i64 p, .int .i64 0, .string put]) W := fun _ => by kernel_rfl
  have i1 : ∀ W, (Instr.index 93 (.agg #[.int .i64 p, .int .i64 0, .string put, .int .i64 (p : Int), .int .i64 0, .string qut]) (.int .i64 1)).run Try.prog W = .ok (.agg #[.int .i64 (p : Int), .int .i64 0, .string qut]) W := fun _ => by kernel_rfl
  have HR := Lib.hid hr
  clear hr
  obtain ⟨V, hV⟩ : ∃ V : World, V = ((w.alloc (Obj.cells #[.int .i64 p, .int .i64 0, .string put] 38)).alloc (Obj.cells #[.int .i64 (p : Int), .int .i64 0, .string qut] 38)).alloc (Obj.cells #[.int .i64 0, .int .i64 0, .string ⟨#[]⟩] 38) := ⟨_, rfl⟩
  have hz : V.heap.size = w.heap.size + 1 + 1 + 1 := by rw [hV]; simp
  have hA : V.cell? ⟨w.heap.size, 0, none⟩ = some (.int .i64 p) ∧ V.cell? ⟨w.heap.size, 1, none⟩ = some (.int .i64 0) ∧ V.cell? ⟨w.heap.size, 2, none⟩ = some (.string put) := by rw [hV]; simp [go_sem]
  have hB : V.cell? ⟨w.heap.size + 1, 0, none⟩ = some (.int .i64 (p : Int)) ∧ V.cell? ⟨w.heap.size + 1, 1, none⟩ = some (.int .i64 0) ∧ V.cell? ⟨w.heap.size + 1, 2, none⟩ = some (.string qut) := by rw [hV]; simp [go_sem]
  have hC : V.cell? ⟨w.heap.size + 1 + 1, 0, none⟩ = some (.int .i64 0) ∧ V.cell? ⟨w.heap.size + 1 + 1, 1, none⟩ = some (.int .i64 0) ∧ V.cell? ⟨w.heap.size + 1 + 1, 2, none⟩ = some (.string ⟨#[]⟩) := by rw [hV]; simp [go_sem]
  have hF : V.frozen? ⟨w.heap.size + 1 + 1, 0, none⟩ = false ∧ V.frozen? ⟨w.heap.size + 1 + 1, 1, none⟩ = false ∧ V.frozen? ⟨w.heap.size + 1 + 1, 2, none⟩ = false := by rw [hV]; simp [go_sem]
  have hK : Below w.heap.size w V := by rw [hV]; exact (((Below.refl _ _).alloc (Nat.le_refl _) _).alloc (by simp) _).alloc (by simp; omega) _
  have HV := Lib.hid hV
  have HA := Lib.hid hA
  have HB := Lib.hid hB
  have HC := Lib.hid hC
  have HF := Lib.hid hF
  clear hV hA hB hC hF
  go_enter Try.func22, Try.ntmps22
  go_wp2_with fail
  refine wp_loop_rounds 3 ?_
  rw [rounds_succ]
  go_wp2_with fail
  rw [← HV.out]
  refine (CK1.out _).mono ?_
  rintro e w1 ⟨rfl, hb1⟩
  have K1 := Lib.hid (bstep_alloc hb1)
  clear hb1 CK1
  go_wp2_with fail
  rw [rounds_succ]
  go_wp2_with fail
  refine (CK2.out _).mono ?_
  rintro e w2 ⟨rfl, hb2⟩
  have k2 := bstep K1.out (bstep_alloc hb2)
  have hz2 : w.heap.size + 1 + 1 < w2.heap.size := by have := k2.size; omega
  obtain ⟨A0, A1, A2⟩ := three_below k2 (by omega) HA.out
  obtain ⟨B0, B1, B2⟩ := three_below k2 (by omega) HB.out
  have K2 := Lib.hid k2
  clear hb2 K1 CK2 k2
  go_wp2_with fail
  rw [rounds_succ]
  go_wp2_with fail
  refine (CL.out _).mono ?_
  rintro e w3 ⟨rfl, hb3⟩
  have k3 := bstep K2.out hb3
  have hz3 : w.heap.size + 1 + 1 < w3.heap.size := by have := k3.size; omega
  obtain ⟨A0', A1', A2'⟩ := three_below k3 (by omega) HA.out
  obtain ⟨B0', B1', B2'⟩ := three_below k3 (by omega) HB.out
  obtain ⟨C0, C1, C2⟩ := three_below k3 (by omega) HC.out
  obtain ⟨F0, F1, F2⟩ : w3.frozen? ⟨w.heap.size + 1 + 1, 0, none⟩ = false ∧ w3.frozen? ⟨w.heap.size + 1 + 1, 1, none⟩ = false ∧ w3.frozen? ⟨w.heap.size + 1 + 1, 2, none⟩ = false :=
    ⟨(k3.frozen (p := ⟨w.heap.size + 1 + 1, 0, none⟩) (by show w.heap.size + 1 + 1 < _; omega)).trans HF.out.1, (k3.frozen (p := ⟨w.heap.size + 1 + 1, 1, none⟩) (by show w.heap.size + 1 + 1 < _; omega)).trans HF.out.2.1, (k3.frozen (p := ⟨w.heap.size + 1 + 1, 2, none⟩) (by show w.heap.size + 1 + 1 < _; omega)).trans HF.out.2.2⟩
  have k4 := hK.trans (k3.mono (by omega))
  clear hb3 K2 A0 A1 A2 B0 B1 B2 k3 CL i0 i1
  by_cases hcl : clash ⟨p, 0, put⟩ ⟨p, 0, qut⟩
  · have HCL := Lib.hid hcl
    rw [decide_eq_true hcl]
    clear hcl OV
    go_wp2_with fail
    refine bodyPost_ret (v := .tuple #[.agg #[.int .i64 0, .int .i64 0, .string ⟨#[]⟩], .int .i64 10]) (by simp [results, Try.results22, go_sem, C0, C1, C2]) rfl ⟨by rw [if_pos HCL.out], ?_⟩
    exact ((k4.setCell (by simp; omega) _).setCell (by simp; omega) _).setCell (by simp; omega) _
  · have HOV := Lib.hid (OV.out hcl)
    have HCL := Lib.hid hcl
    rw [decide_eq_false hcl]
    clear hcl OV
    have g0 : w.heap.size < w3.heap.size := by omega
    have g1 : w.heap.size + 1 < w3.heap.size := by omega
    have HM := Lib.hid (show (ovr ⟨p, 0, put⟩ ⟨p, 0, qut⟩).p = mv p 0 qut.size p (!Op.bytesLess put.toList qut.toList && !put.toList == qut.toList) by rw [← HR.out]; rfl)
    have mvr : ∀ W, Calls Try.prog 46 #[.agg #[.int .i64 (p : Int), .int .i64 0, .string qut], .int .i64 p, .bool (!Op.bytesLess put.toList qut.toList && !put.toList == qut.toList)] W fun e w' => e = .returned (.int .i64 (mv p 0 qut.size p (!Op.bytesLess put.toList qut.toList && !put.toList == qut.toList))) ∧ Below W.heap.size W w' := fun W => moved_any p 0 qut p (!Op.bytesLess put.toList qut.toList && !put.toList == qut.toList) W (by omega) (by omega) (by omega) (by omega)
    have MVR := Lib.hid mvr
    clear mvr
    have hov := HOV.out
    rw [HM.out] at hov
    generalize mv p 0 qut.size p (!Op.bytesLess put.toList qut.toList && !put.toList == qut.toList) = m at *
    have hm : m + 0 ≤ n - 0 + qut.size := hov
    have ck : ∀ W, Calls Try.prog 44 #[.int .i64 ((n : Int) + (qut.size : Int)), .agg #[.int .i64 m, .int .i64 0, .string put]] W fun e w' => e = .returned (.int .i64 0) ∧ Below W.heap.size W w' := by
      intro W
      have := check_any (n - 0 + qut.size) m 0 put W hm (by omega) (by omega)
      rwa [show ((n - 0 + qut.size : Nat) : Int) = ((n : Int) + (qut.size : Int)) by omega] at this
    have CK := Lib.hid ck
    clear ck hov HOV
    go_wp2_with fail
    refine (MVR.out _).mono ?_
    rintro e w4 ⟨rfl, hb4⟩
    have n3 := (Blk.new w3 38 #[.int .i64 (p : Int), .int .i64 0, .string put]).below hb4 (by simp)
    have k5 := bstep_alloc hb4
    have N0 : w4.cell? ⟨w3.heap.size, 0, none⟩ = some (.int .i64 (p : Int)) := by rw [n3.cell]; rfl
    have N1 : w4.cell? ⟨w3.heap.size, 1, none⟩ = some (.int .i64 0) := by rw [n3.cell]; rfl
    have N2 : w4.cell? ⟨w3.heap.size, 2, none⟩ = some (.string put) := by rw [n3.cell]; rfl
    have G0 := n3.frozen 0
    have nl := n3.lt
    obtain ⟨B0, B1, B2⟩ := three_below k5 g1 ⟨B0', B1', B2'⟩
    have HC4 := Lib.hid (three_below k5 hz3 ⟨C0, C1, C2⟩)
    have F4 : w4.frozen? ⟨w.heap.size + 1 + 1, 0, none⟩ = false ∧ w4.frozen? ⟨w.heap.size + 1 + 1, 1, none⟩ = false ∧ w4.frozen? ⟨w.heap.size + 1 + 1, 2, none⟩ = false :=
      ⟨(k5.frozen (p := ⟨w.heap.size + 1 + 1, 0, none⟩) hz3).trans F0, (k5.frozen (p := ⟨w.heap.size + 1 + 1, 1, none⟩) hz3).trans F1, (k5.frozen (p := ⟨w.heap.size + 1 + 1, 2, none⟩) hz3).trans F2⟩
    have HF4 := Lib.hid F4
    have k6 := bstep k4 k5
    have hm3 : ¬ (w3.heap.size = w.heap.size + 1) := by omega
    have hm4 : ¬ (w3.heap.size = w.heap.size + 1 + 1) := by omega
    clear A0' A1' A2' B0' B1' B2' C0 C1 C2 F0 F1 F2 F4 hb4 n3 k5 k4 HA HB HC HF HV hK hz
    go_wp2_with fail
    refine (CK.out _).mono ?_
    rintro e w5 ⟨rfl, hb5⟩
    have k7 := bstep (k6.setCell (p := ⟨w3.heap.size, 0, none⟩) (by show w.heap.size ≤ w3.heap.size; omega) (.int .i64 (m : Int))) hb5
    have L0 : w5.cell? ⟨w3.heap.size, 0, none⟩ = some (.int .i64 (m : Int)) := (hb5.cell (p := ⟨w3.heap.size, 0, none⟩) (by simpa using nl)).trans (by simp [go_sem, N0])
    have L1 : w5.cell? ⟨w3.heap.size, 1, none⟩ = some (.int .i64 0) := (hb5.cell (p := ⟨w3.heap.size, 1, none⟩) (by simpa using nl)).trans (by simp [go_sem, N1])
    have L2 : w5.cell? ⟨w3.heap.size, 2, none⟩ = some (.string put) := (hb5.cell (p := ⟨w3.heap.size, 2, none⟩) (by simpa using nl)).trans (by simp [go_sem, N2])
    have cf : ∀ o : Nat, w5.cell? ⟨w.heap.size + 1 + 1, o, none⟩ = w4.cell? ⟨w.heap.size + 1 + 1, o, none⟩ := fun o => (hb5.cell (p := ⟨w.heap.size + 1 + 1, o, none⟩) (by simp; omega)).trans (World.cell?_setCell_other _ _ _ _ (by simp))
    have ff : ∀ o : Nat, w5.frozen? ⟨w.heap.size + 1 + 1, o, none⟩ = w4.frozen? ⟨w.heap.size + 1 + 1, o, none⟩ := fun o => (hb5.frozen (p := ⟨w.heap.size + 1 + 1, o, none⟩) (by simp; omega)).trans (by simp [go_sem])
    obtain ⟨C0, C1, C2⟩ : w5.cell? ⟨w.heap.size + 1 + 1, 0, none⟩ = some (.int .i64 0) ∧ w5.cell? ⟨w.heap.size + 1 + 1, 1, none⟩ = some (.int .i64 0) ∧ w5.cell? ⟨w.heap.size + 1 + 1, 2, none⟩ = some (.string ⟨#[]⟩) := by rw [cf, cf, cf]; exact HC4.out
    obtain ⟨F0, F1, F2⟩ : w5.frozen? ⟨w.heap.size + 1 + 1, 0, none⟩ = false ∧ w5.frozen? ⟨w.heap.size + 1 + 1, 1, none⟩ = false ∧ w5.frozen? ⟨w.heap.size + 1 + 1, 2, none⟩ = false := by rw [ff, ff, ff]; exact HF4.out
    clear N0 N1 N2 G0 B0 B1 B2 HC4 HF4 hb5 k6 cf ff CK
    go_wp2_with fail
    refine bodyPost_ret (v := .tuple #[.agg #[.int .i64 m, .int .i64 0, .string put], .int .i64 0]) (by simp [results, Try.results22, go_sem, C0, C1, C2]) rfl ⟨by rw [if_neg HCL.out, ← HM.out]; rfl, ?_⟩
    exact ((k7.setCell (by simp; omega) _).setCell (by simp; omega) _).setCell (by simp; omega) _

theorem over_any (n : Nat) (x y : Ed) (w : World) (hn : n ≤ 500) (hx : x.p + x.c ≤ n) (hy : y.p + y.c ≤ n) (hxp : x.put.size ≤ 20) (hyp : y.put.size ≤ 20) :
    Calls Try.prog 22 #[.int .i64 n, edv x, edv y] w (OvPost x y w) := by
  obtain ⟨p, c, put⟩ := x
  obtain ⟨q, d, qut⟩ := y
  simp only at hx hy hxp hyp
  by_cases h1 : p = q
  · subst h1
    by_cases h2 : d = 0
    · subst h2
      by_cases h3 : 0 < c
      · exact over_ins n p c 0 0 put qut w hn hx hy hxp hyp (by simp [rt, h3]) h3
      · obtain rfl : c = 0 := by omega
        exact over_both n p 0 0 0 put qut w hn hx hy hxp hyp (by simp [rt, gt])
    · exact over_cut n p c 0 d put qut w hn hx hy hxp hyp (by simp [rt, h2]) (by simp; omega)
  · exact over_ne n p c q d put qut w hn hx hy hxp hyp (by simp [rt, h1]) (by simp; omega)
end Go.Proofs.Ytincfcjiodooiaa
