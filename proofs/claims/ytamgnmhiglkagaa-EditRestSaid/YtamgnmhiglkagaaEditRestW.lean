/-
  The walk of the law EditRest: whatever its input, it returns true and changes nothing that was there.
-/
import Derived.Test.YtamgnmhiglkagaaEdits
namespace Go.Proofs.Ytamgnmhiglkagaa
open Go.RowKit
set_option linter.unusedVariables false

set_option maxRecDepth 100000 in
set_option maxHeartbeats 2000000 in
theorem editRest_walk (w : World) (v0 : Value) (l : List Int) (h0 : Row .i64 w v0 l) (z : Chg × Value × Value × Value) (h1 : Chg1 w z.2.1 z.2.2.1 z.2.2.2 z.1) :
    Calls Try.prog 8 #[v0, .agg #[z.2.1, z.2.2.1, z.2.2.2]] w fun e w' => e = .returned (.bool true) ∧ Below w.heap.size w w' := by
  obtain ⟨x, u0, u1, u2⟩ := z
  simp only at h1 ⊢
  have h0' := h0.later ((Below.refl w.heap.size w).alloc (Nat.le_refl w.heap.size) (.cells #[u0, u1, u2] 46))
  have h1' := h1.later ((Below.refl w.heap.size w).alloc (Nat.le_refl w.heap.size) (.cells #[u0, u1, u2] 46))
  obtain ⟨rfl, rfl, hu2, _⟩ := h1
  obtain ⟨A2, c2, rfl, _⟩ := hu2
  generalize x.p = xp at *
  go_enter Try.func8, Try.ntmps8
  go_wp2_with fail
  refine (textOf_any v0 l 80 _ h0' (by omega) (by omega)).mono ?_
  rintro e w1 ⟨s, rfl, es0, rfl⟩
  have ss := text_len _ _ _ es0; clear es0
  simp only [show Int.toNat 80 = 80 from rfl] at ss
  go_wp2_with fail
  refine (editOf_any x _ _ _ s.size _ h1' (by omega)).mono ?_
  rintro e w1 ⟨d, rfl, hd1, hd2, hd3, hb1⟩
  replace hb1 := bstep_alloc hb1
  have hE := EdRow.lit (w1.alloc (Obj.cells #[.int .i64 (d.p : Int), .int .i64 (d.c : Int), .string d.put] 48)) 48 [d] (show 1 ≤ maxLen by decide)
  have hL : ((w1.alloc (Obj.cells #[.int .i64 (d.p : Int), .int .i64 (d.c : Int), .string d.put] 48)).alloc (Obj.cells #[.int .i64 (d.p : Int), .int .i64 (d.c : Int), .string d.put] 48)).cell? ⟨w1.heap.size, 0, none⟩ = some (.int .i64 (d.p : Int)) ∧ ((w1.alloc (Obj.cells #[.int .i64 (d.p : Int), .int .i64 (d.c : Int), .string d.put] 48)).alloc (Obj.cells #[.int .i64 (d.p : Int), .int .i64 (d.c : Int), .string d.put] 48)).cell? ⟨w1.heap.size, 1, none⟩ = some (.int .i64 (d.c : Int)) ∧ ((w1.alloc (Obj.cells #[.int .i64 (d.p : Int), .int .i64 (d.c : Int), .string d.put] 48)).alloc (Obj.cells #[.int .i64 (d.p : Int), .int .i64 (d.c : Int), .string d.put] 48)).cell? ⟨w1.heap.size, 2, none⟩ = some (.string d.put) := by simp [go_sem]
  have HL := Lib.hid hL
  have hok : okr s.size [d] := ⟨hd1, by omega, trivial⟩
  have hbel : Below w.heap.size w ((w1.alloc (Obj.cells #[.int .i64 (d.p : Int), .int .i64 (d.c : Int), .string d.put] 48)).alloc (Obj.cells #[.int .i64 (d.p : Int), .int .i64 (d.c : Int), .string d.put] 48)) := (hb1.alloc hb1.size _).alloc (by have := hb1.size; simp; omega) _
  clear hL
  simp only [World.size_alloc] at hE
  go_wp2_with fail
  refine (edited_any s _ [d] _ hE (by omega) (show 1 ≤ 60 by decide) (by intro e he; simp at he; subst he; omega) hok).mono ?_
  rintro e w2 ⟨rfl, hb2⟩
  obtain ⟨L0, L1, L2⟩ := three_below hb2 (by simp; omega) HL.out
  have s1 : w1.heap.size < w2.heap.size := by have := hb2.size; simp at this; omega
  have hbel2 := bstep hbel hb2
  have hts : (rn s [d]).size = s.size + d.put.size - d.c := mk_size s d hd1
  have g1 : (rn s [d]).extract 0 d.p = s.extract 0 d.p := mk_head s d hd1
  have g2 : (rn s [d]).extract ((rn s [d]).size - (s.size - d.p - d.c)) (rn s [d]).size = s.extract (s.size - (s.size - d.p - d.c)) s.size := by
    rw [show s.size - (s.size - d.p - d.c) = d.p + d.c from by omega, show (rn s [d]).size - (s.size - d.p - d.c) = d.p + d.put.size from by omega]; exact mk_tail s d hd1
  have g3 : (rn s [d]).extract d.p (d.p + d.put.size) = d.put := mk_mid s d hd1
  clear hb2 hE HL hbel hok h0' h1' h0 hb1
  have G1 := Lib.hid g1
  have G2 := Lib.hid g2
  have G3 := Lib.hid g3
  clear g1 g2 g3
  generalize rn s [d] = t at *
  have t1 : t.size ≤ s.size + d.put.size - d.c := by omega
  have t2 : s.size + d.put.size - d.c ≤ t.size := by omega
  have HT := Lib.hid hts
  have hq : ((t.size : Int) == (s.size : Int) + (d.put.size : Int) - (d.c : Int)) = true := by simp; omega
  clear hts
  have b1 : ((t.extract 0 d.p).toList == (s.extract 0 d.p).toList) = true := by rw [G1.out]; simp
  have b2 : ((t.extract (t.size - (s.size - d.p - d.c)) t.size).toList == (s.extract (s.size - (s.size - d.p - d.c)) s.size).toList) = true := by rw [G2.out]; simp
  have b3 : ((t.extract d.p (d.p + d.put.size)).toList == d.put.toList) = true := by rw [G3.out]; simp
  go_wp2_with fail
  go_quiet (fail)
  go_wp2
  go_ret
  exact ⟨rfl, below_drewN hbel2 _⟩
end Go.Proofs.Ytamgnmhiglkagaa
