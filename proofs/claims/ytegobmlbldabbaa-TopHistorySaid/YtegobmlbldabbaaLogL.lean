/-
  The walk of the log's reader's deed.
-/
import Derived.Test.YtegobmlbldabbaaLogR
namespace Go.Proofs.Ytegobmlbldabbaa
open Go.RowKit
set_option linter.unusedVariables false

theorem brow_one (w : World) (v : Value) (st : St) (h : BRow w v (tk 1 st).1) : ∃ g o c, v = .slice (some ⟨g, o, none⟩) 1 c ∧ 1 ≤ c ∧ c ≤ maxLen ∧ g < w.heap.size ∧ w.cell? ⟨g, o, none⟩ = some (.int .u8 (((tk 1 st).1.getD 0 0).toNat : Int)) := by
  obtain ⟨g, o, c, hv, h1, h2, h3, h4⟩ := h
  have hl : (tk 1 st).1.length = 1 := by
    unfold tk
    split
    · simp
    · rename_i hq
      have : ¬ st.left.length < 1 := fun e => hq (.inr e)
      simp; omega
  rw [hl] at hv h1
  obtain ⟨a, hab⟩ : ∃ a, (tk 1 st).1 = [a] := by
    match (tk 1 st).1, hl with
    | [a], _ => exact ⟨a, rfl⟩
  rw [hab] at h4 ⊢
  exact ⟨g, o, c, hv, h1, h2, h3, h4 0 _ rfl⟩
def rdv (d : Rd) : Value := .agg #[.int .i64 (d.k : Int), .int .i64 (d.p : Int), .int .i64 (d.c : Int), .string d.put]
def RdPost (R g : Nat) (st : St) (w : World) (e : Ending) (w' : World) : Prop := e = .returned (rdv (rdeed st).1) ∧ RDm w' R g (rdeed st).2 ∧ w.grownBy w' (some R)
/-- Stores into a block of the call's own change nothing else. -/
theorem RDm.far {w : World} {R g : Nat} {st : St} (h : RDm w R g st) {B i : Nat} (h1 : B ≠ R) (h2 : B ≠ g) (v : Value) : RDm (w.setCell ⟨B, i, none⟩ v) R g st := by
  obtain ⟨o, c, a1, a2, a3, a4, a5, a6⟩ := h
  exact ⟨o, c, a1.far (p := ⟨B, i, none⟩) (Ne.symm h1) v, a2, a3, by simpa using a4, a5, fun j u hu => by
    rw [World.cell?_setCell_other _ _ _ _ (fun e => h2 (by injection e with e1 <;> exact e1.symm))]; exact a6 j u hu⟩
theorem grown_own {w w1 : World} {B R i : Nat} {v : Value} (h : w.grownBy w1 (some R)) (hB : w.heap.size ≤ B) : w.grownBy (w1.setCell ⟨B, i, none⟩ v) (some R) :=
  ⟨h.os, h.tape, h.output, by simpa using h.size, fun k hk hne => (Below.heap_setCell w1 ⟨B, i, none⟩ v k (fun e => by have e1 : k = B := e; omega)).trans (h.block k hk hne)⟩
set_option maxRecDepth 100000 in
set_option maxHeartbeats 4000000 in
theorem rdeed_any (R g : Nat) (st : St) (w : World) (h : RDm w R g st) :
    Calls Try.prog 49 #[.pointer (some ⟨R, 0, none⟩)] w (RdPost R g st w) := by
  have hal := (Below.refl w.heap.size w).alloc (Nat.le_refl _) (.cells #[.int .i64 0, .int .i64 0, .int .i64 0, .string ⟨#[]⟩] 36)
  have hD := Blk.new w 36 #[.int .i64 0, .int .i64 0, .int .i64 0, .string ⟨#[]⟩]
  have hR := h.below hal
  have hRl : R < w.heap.size := by obtain ⟨o, c, hB, _⟩ := h; exact hB.lt
  have hgl : g < w.heap.size := by obtain ⟨o, c, _, _, _, h4, _⟩ := h; exact h4
  have HT := Lib.hid (take_any R g 1 st _ hR (by omega))
  have HG0 := Lib.hid (grown_of_below hal (some R))
  have hsz : w.heap.size < (w.alloc (.cells #[.int .i64 0, .int .i64 0, .int .i64 0, .string ⟨#[]⟩] 36)).heap.size := by simp
  clear h hal hR
  go_enter Try.func49, Try.ntmps49
  generalize hWW : w.alloc (.cells #[.int .i64 0, .int .i64 0, .int .i64 0, .string ⟨#[]⟩] 36) = W at *
  have HWW := Lib.hid hWW
  clear hWW
  go_wp2_with (go_at_call 70; rw [HWW.out]; refine HT.out.mono ?_)
  rintro e w1 ⟨v, rfl, hv, hr, hg⟩
  have hD1 := hD.grown hg (by intro e; injection e with e; omega)
  have hs1 := hg.size
  obtain ⟨b, o, c, rfl, hc1, hc2, hbl, x0⟩ := brow_one w1 v st hv
  have HG1 := Lib.hid (HG0.out.trans hg)
  have HR1 := Lib.hid (hr.far (B := w.heap.size) (i := 0) (by omega) (by omega) (.int .i64 (((tk 1 st).1.getD 0 0).toNat : Int)))
  have hx := ((tk 1 st).1.getD 0 0).toNat_lt
  have HRD : Hid (rdeed st = if ((tk 1 st).1.getD 0 0).toNat = 1 then (⟨((tk 1 st).1.getD 0 0).toNat, (rnum (tk 1 st).2).1, (rnum (rnum (tk 1 st).2).2).1, ⟨(rtxt (rnum (rnum (tk 1 st).2).2).2).1.toArray⟩⟩, (rtxt (rnum (rnum (tk 1 st).2).2).2).2) else (⟨((tk 1 st).1.getD 0 0).toNat, 0, 0, ⟨#[]⟩⟩, (tk 1 st).2)) := Lib.hid rfl
  generalize ((tk 1 st).1.getD 0 0).toNat = x at *
  generalize (tk 1 st).2 = st1 at *
  have hD2 := hD1.set_ 0 (.int .i64 (x : Int))
  have c0 : (w1.setCell ⟨w.heap.size, 0, none⟩ (.int .i64 (x : Int))).cell? ⟨w.heap.size, 0, none⟩ = some (.int .i64 (x : Int)) := by rw [hD2.cell]; rfl
  have d0 : w1.cell? ⟨w.heap.size, 0, none⟩ = some (.int .i64 0) := by rw [hD1.cell]; rfl
  have f0 := hD1.frozen 0
  have HG2 := Lib.hid (grown_own (i := 0) (v := .int .i64 (x : Int)) HG1.out (Nat.le_refl w.heap.size))
  clear hv hr hg HG0 HG1 hD
  by_cases hx1 : x = 1
  · subst hx1
    rw [if_pos rfl] at HRD
    have hxb : ((1 : Nat) : Int) == 1 := rfl
    have c0' : (w1.setCell ⟨w.heap.size, 0, none⟩ (.int .i64 1)).cell? ⟨w.heap.size, 0, none⟩ = some (.int .i64 1) := c0
    have hD2' : Blk (w1.setCell ⟨w.heap.size, 0, none⟩ (.int .i64 1)) w.heap.size 36 #[.int .i64 1, .int .i64 0, .int .i64 0, .string ⟨#[]⟩] := hD2
    have HR1' : Hid (RDm (w1.setCell ⟨w.heap.size, 0, none⟩ (.int .i64 1)) R g st1) := HR1
    have HG2' : Hid (w.grownBy (w1.setCell ⟨w.heap.size, 0, none⟩ (.int .i64 1)) (some R)) := HG2
    have HN1 := Lib.hid (rnum_any R g st1 _ HR1'.out)
    clear c0 hD2 HR1 HG2 hD1
    go_wp2_with fail
    refine HN1.out.mono ?_
    rintro e w2 ⟨rfl, hr2, hg2⟩
    have HN2 := Lib.hid (rnum_any R g _ w2 hr2)
    have HG3 := Lib.hid (HG2'.out.trans hg2)
    have hD3 := hD2'.grown hg2 (by intro e; injection e with e; omega)
    clear hr2 hg2 hD2' HG2' HN1 HR1'
    go_wp2_with fail
    refine HN2.out.mono ?_
    rintro e w3 ⟨rfl, hr3, hg3⟩
    have HG4 := Lib.hid (HG3.out.trans hg3)
    have hD4 := hD3.grown hg3 (by intro e; injection e with e; omega)
    have hwl := hD4.lt
    generalize hw4 : ((w3.setCell ⟨w.heap.size, 1, none⟩ (.int .i64 ((rnum st1).1 : Int))).setCell ⟨w.heap.size, 2, none⟩ (.int .i64 ((rnum (rnum st1).2).1 : Int))).setCell ⟨w.heap.size, 3, none⟩ (.string ⟨#[]⟩) = w4
    have hG5 : w.grownBy w4 (some R) := by subst hw4; exact grown_own (grown_own (grown_own HG4.out (Nat.le_refl _)) (Nat.le_refl _)) (Nat.le_refl _)
    have hR5 : RDm w4 R g (rnum (rnum st1).2).2 := by subst hw4; exact ((hr3.far (B := w.heap.size) (by omega) (by omega) _).far (by omega) (by omega) _).far (by omega) (by omega) _
    have hD5 : Blk w4 w.heap.size 36 #[.int .i64 1, .int .i64 ((rnum st1).1 : Int), .int .i64 ((rnum (rnum st1).2).1 : Int), .string ⟨#[]⟩] := by
      subst hw4; exact ((hD4.set_ 1 _).set_ 2 _).set_ 3 _
    have f1 := hD4.frozen 1
    have f2 := hD4.frozen 2
    have f3 := hD4.frozen 3
    have x1 : w3.cell? ⟨w.heap.size, 1, none⟩ = some (.int .i64 0) := by rw [hD4.cell]; rfl
    have x2 : w3.cell? ⟨w.heap.size, 2, none⟩ = some (.int .i64 0) := by rw [hD4.cell]; rfl
    have x3 : w3.cell? ⟨w.heap.size, 3, none⟩ = some (.string ⟨#[]⟩) := by rw [hD4.cell]; rfl
    have HW4 := Lib.hid hw4
    have HT5 := Lib.hid (rtxt_any R g _ w4 hR5)
    have HG5 := Lib.hid hG5
    clear hw4 hr3 hg3 hD3 HG3 HG4 hG5 hR5 HN2 hD4
    go_wp2_with fail
    rw [HW4.out]
    refine HT5.out.mono ?_
    rintro e w6 ⟨rfl, hr6, hg6⟩
    have hD6 := hD5.grown hg6 (by intro e; injection e with e; omega)
    have hD7 := hD6.set_ 3 (.string ⟨(rtxt (rnum (rnum st1).2).2).1.toArray⟩)
    have HG7 := Lib.hid (grown_own (i := 3) (v := .string ⟨(rtxt (rnum (rnum st1).2).2).1.toArray⟩) (HG5.out.trans hg6) (Nat.le_refl w.heap.size))
    have HR7 := Lib.hid (hr6.far (B := w.heap.size) (i := 3) (by omega) (by omega) (.string ⟨(rtxt (rnum (rnum st1).2).2).1.toArray⟩))
    have q3 : w6.cell? ⟨w.heap.size, 3, none⟩ = some (.string ⟨#[]⟩) := by rw [hD6.cell]; rfl
    have g3 := hD6.frozen 3
    clear hr6 hg6 HT5 HW4 hD5 f1 f2 f3 x1 x2 x3 HG5
    have p0 : w6.cell? ⟨w.heap.size, 0, none⟩ = some (.int .i64 1) := by rw [hD6.cell]; rfl
    have p1 : w6.cell? ⟨w.heap.size, 1, none⟩ = some (.int .i64 ((rnum st1).1 : Int)) := by rw [hD6.cell]; rfl
    have p2 : w6.cell? ⟨w.heap.size, 2, none⟩ = some (.int .i64 ((rnum (rnum st1).2).1 : Int)) := by rw [hD6.cell]; rfl
    have g0 := hD6.frozen 0
    have g1 := hD6.frozen 1
    have g2 := hD6.frozen 2
    have r0 := hD7.cell 0
    have r1 := hD7.cell 1
    have r2 := hD7.cell 2
    have r3 := hD7.cell 3
    simp only [List.setIfInBounds_toArray, List.set_cons_succ, List.set_cons_zero, List.getElem?_toArray, List.getElem?_cons_zero, List.getElem?_cons_succ] at r0 r1 r2 r3
    have h0 := hD7.frozen 0
    have h1 := hD7.frozen 1
    have h2 := hD7.frozen 2
    have h3 := hD7.frozen 3
    have HD7 := Lib.hid hD7
    clear hD6 hD7
    go_wp2_with fail
    refine bodyPost_ret (v := .agg #[.int .i64 1, .int .i64 ((rnum st1).1 : Int), .int .i64 ((rnum (rnum st1).2).1 : Int), .string ⟨(rtxt (rnum (rnum st1).2).2).1.toArray⟩]) (by simp [results, Try.results49, go_sem, r0, r1, r2, r3]) rfl ⟨by rw [HRD.out]; rfl, ?_, ?_⟩
    · rw [HRD.out]
      exact (((HR7.out.far (by omega) (by omega) _).far (by omega) (by omega) _).far (by omega) (by omega) _).far (by omega) (by omega) _
    · exact grown_own (grown_own (grown_own (grown_own HG7.out (Nat.le_refl _)) (Nat.le_refl _)) (Nat.le_refl _)) (Nat.le_refl _)
  · rw [if_neg hx1] at HRD
    have hxb : ((x : Int) == 1) = false := by rw [beq_eq_false_iff_ne]; omega
    have c1 : (w1.setCell ⟨w.heap.size, 0, none⟩ (.int .i64 (x : Int))).cell? ⟨w.heap.size, 1, none⟩ = some (.int .i64 0) := by rw [hD2.cell]; rfl
    have c2 : (w1.setCell ⟨w.heap.size, 0, none⟩ (.int .i64 (x : Int))).cell? ⟨w.heap.size, 2, none⟩ = some (.int .i64 0) := by rw [hD2.cell]; rfl
    have c3 : (w1.setCell ⟨w.heap.size, 0, none⟩ (.int .i64 (x : Int))).cell? ⟨w.heap.size, 3, none⟩ = some (.string ⟨#[]⟩) := by rw [hD2.cell]; rfl
    have g0 := hD2.frozen 0
    have g1 := hD2.frozen 1
    have g2 := hD2.frozen 2
    have g3 := hD2.frozen 3
    clear hD1 hD2
    go_wp2_with fail
    refine bodyPost_ret (v := .agg #[.int .i64 (x : Int), .int .i64 0, .int .i64 0, .string ⟨#[]⟩]) (by simp [results, Try.results49, go_sem, c0, c1, c2, c3]) rfl ⟨by rw [HRD.out]; rfl, ?_, ?_⟩
    · rw [HRD.out]
      exact (((HR1.out.far (by omega) (by omega) _).far (by omega) (by omega) _).far (by omega) (by omega) _).far (by omega) (by omega) _
    · exact grown_own (grown_own (grown_own (grown_own HG2.out (Nat.le_refl _)) (Nat.le_refl _)) (Nat.le_refl _)) (Nat.le_refl _)
end Go.Proofs.Ytegobmlbldabbaa
