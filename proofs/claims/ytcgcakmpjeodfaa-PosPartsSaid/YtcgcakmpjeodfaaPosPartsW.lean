/-
  The walk of the law PosParts: whatever its input, it returns true and changes nothing that was there.
-/
import Derived.Test.YtcgcakmpjeodfaaPos
import Derived.Test.YtcgcakmpjeodfaaEd
import Derived.Test.YtcgcakmpjeodfaaMix
import Derived.Test.YtcgcakmpjeodfaaReg
namespace Go.Proofs.Ytcgcakmpjeodfaa
open Go.RowKit
set_option linter.unusedVariables false

theorem three_of_blk {w : World} {g : Nat} {t : TypeId} {a b c : Value} (h : Blk w g t #[a, b, c]) : Three w g a b c := ⟨h.lt, by rw [h.cell]; rfl, by rw [h.cell]; rfl, by rw [h.cell]; rfl⟩
set_option maxRecDepth 100000 in
set_option maxHeartbeats 4000000 in
theorem posParts_walk (w : World) (v0 : Value) (l : List Int) (h0 : Row .i64 w v0 l) (v1 : Value) (l1 : List Int) (h1 : Row .i64 w v1 l1) (v2 : Value) (l2 : List Int) (h2 : Row .i64 w v2 l2) :
    Calls Try.prog 7 #[v0, v1, v2] w fun e w' => e = .returned (.bool true) ∧ Below w.heap.size w w' := by
  have H1 := Lib.hid h1
  have H2 := Lib.hid h2
  clear h1 h2
  go_enter Try.func7, Try.ntmps7
  go_wp2_with fail
  refine (textOf_any v0 l 60 _ h0 (by omega) (by omega)).mono ?_
  rintro e w1 ⟨a, rfl, es0, rfl⟩
  have ss0 := text_len _ _ _ es0; clear es0
  go_wp2_with fail
  refine (textOf_any v1 l1 60 _ H1.out (by omega) (by omega)).mono ?_
  rintro e w1 ⟨b, rfl, es0, rfl⟩
  have ss1 := text_len _ _ _ es0; clear es0
  go_wp2_with fail
  refine (textOf_any v2 l2 60 _ H2.out (by omega) (by omega)).mono ?_
  rintro e w1 ⟨c, rfl, es0, rfl⟩
  have ss2 := text_len _ _ _ es0; clear es0
  simp only [show Int.toNat 60 = 60 from rfl] at ss0 ss1 ss2
  clear h0 H1 H2
  have la : a.data.toList.length ≤ 60 := by simpa using ss0
  have lb : b.data.toList.length ≤ 60 := by simpa using ss1
  have lc : c.data.toList.length ≤ 60 := by simpa using ss2
  have PA := Lib.hid (fun W => posOf_any a W (by omega))
  have PB := Lib.hid (fun W => posOf_any b W (by omega))
  have PC := Lib.hid (fun W => posOf_any c W (by omega))
  have PAB := Lib.hid (fun W => posOf_any (a ++ b) W (by simp; omega))
  have PABC := Lib.hid (fun W => posOf_any (a ++ b ++ c) W (by simp; omega))
  rw [append_data] at PAB
  rw [append_data, append_data, List.append_assoc] at PABC
  have JAB := Lib.hid (fun W => posJoin_any a.data.toList b.data.toList W (by omega) (by omega))
  have JBC := Lib.hid (fun W => posJoin_any b.data.toList c.data.toList W (by omega) (by omega))
  have JX := Lib.hid (fun W => posJoin_any (a.data.toList ++ b.data.toList) c.data.toList W (by simp; omega) (by omega))
  have JY := Lib.hid (fun W => posJoin_any a.data.toList (b.data.toList ++ c.data.toList) W (by omega) (by simp; omega))
  have MU := Lib.hid (fun W => posMay_any (a.data.toList ++ (b.data.toList ++ c.data.toList)) W (by simp; omega))
  rw [List.append_assoc] at JX
  unfold posv at *
  generalize a.data.toList.length = a0 at *
  generalize b.data.toList.length = b0 at *
  generalize c.data.toList.length = d0 at *
  generalize lnsL a.data.toList = a1 at *
  generalize lnsL b.data.toList = b1 at *
  generalize lnsL c.data.toList = d1 at *
  generalize colL a.data.toList = a2 at *
  generalize colL b.data.toList = b2 at *
  generalize colL c.data.toList = d2 at *
  generalize (a.data.toList ++ b.data.toList).length = x0 at *
  generalize lnsL (a.data.toList ++ b.data.toList) = x1 at *
  generalize colL (a.data.toList ++ b.data.toList) = x2 at *
  generalize (b.data.toList ++ c.data.toList).length = y0 at *
  generalize lnsL (b.data.toList ++ c.data.toList) = y1 at *
  generalize colL (b.data.toList ++ c.data.toList) = y2 at *
  generalize (a.data.toList ++ (b.data.toList ++ c.data.toList)).length = u0 at *
  generalize lnsL (a.data.toList ++ (b.data.toList ++ c.data.toList)) = u1 at *
  generalize colL (a.data.toList ++ (b.data.toList ++ c.data.toList)) = u2 at *
  clear la lb lc
  go_wp2_with fail
  refine (PA.out _).mono ?_
  rintro e w1 ⟨rfl, hb1⟩
  go_wp2_with fail
  refine (PB.out _).mono ?_
  rintro e w2 ⟨rfl, hb2⟩
  go_wp2_with fail
  refine (JAB.out _).mono ?_
  rintro e w3 ⟨rfl, hb3⟩
  have k3 := bstep (bstep hb1 hb2) hb3
  have T3 := Lib.hid (Three.new w3 (.int .i64 (x0 : Int)) (.int .i64 (x1 : Int)) (.int .i64 (x2 : Int)) 71)
  have k3' := Lib.hid (k3.alloc k3.size (.cells #[.int .i64 (x0 : Int), .int .i64 (x1 : Int), .int .i64 (x2 : Int)] 71))
  clear hb1 hb2 hb3 k3 JAB
  go_wp2_with fail
  refine (PB.out _).mono ?_
  rintro e w4 ⟨rfl, hb4⟩
  go_wp2_with fail
  refine (PC.out _).mono ?_
  rintro e w5 ⟨rfl, hb5⟩
  go_wp2_with fail
  refine (JBC.out _).mono ?_
  rintro e w6 ⟨rfl, hb6⟩
  have T6 := Lib.hid (((T3.out.later hb4).later hb5).later hb6)
  have k6 := bstep (bstep (bstep k3'.out hb4) hb5) hb6
  have S6 := Three.new w6 (.int .i64 (y0 : Int)) (.int .i64 (y1 : Int)) (.int .i64 (y2 : Int)) 71
  have T6' := (T6.out.alloc (.cells #[.int .i64 (y0 : Int), .int .i64 (y1 : Int), .int .i64 (y2 : Int)] 71))
  have k6' := (k6.alloc k6.size (.cells #[.int .i64 (y0 : Int), .int .i64 (y1 : Int), .int .i64 (y2 : Int)] 71))
  clear hb4 hb5 hb6 T3 T6 k3' k6 JBC
  go_wp2_with fail
  generalize w6.alloc (.cells #[.int .i64 (y0 : Int), .int .i64 (y1 : Int), .int .i64 (y2 : Int)] 71) = W at *
  generalize w6.heap.size = g9 at *
  generalize w3.heap.size = g7 at *
  obtain ⟨q9, q0, q1, q2⟩ := T6'
  refine wp_region_mix 7 2 (fun w' => Below W.heap.size W w') (by kernel_rfl) (by kernel_rfl) (fun _ _ h1 h2 => bstep h1 h2) (Below.refl _ _) ?_
  intro ι F hne hF
  have c0 : ∀ i, (F i).cell? ⟨g7, 0, none⟩ = some (.int .i64 (x0 : Int)) := fun i => ((hF i).cell (p := ⟨g7, 0, none⟩) q9).trans q0
  have c1 : ∀ i, (F i).cell? ⟨g7, 1, none⟩ = some (.int .i64 (x1 : Int)) := fun i => ((hF i).cell (p := ⟨g7, 1, none⟩) q9).trans q1
  have c2 : ∀ i, (F i).cell? ⟨g7, 2, none⟩ = some (.int .i64 (x2 : Int)) := fun i => ((hF i).cell (p := ⟨g7, 2, none⟩) q9).trans q2
  simp only [List.take_succ_cons, List.take_zero, List.drop_succ_cons, List.drop_zero]
  repeat (refine wpB_step (fun K hK => ?_); go_simp; first | (refine hK _ ?_; clear hK K) | (apply Exists.intro; refine ⟨fun _ => ?_, hK _ ?_⟩; (first | ((with_reducible refine (PC.out _).mono ?_); rintro e w1 ⟨rfl, hb⟩; exact ⟨rfl, hb⟩) | ((with_reducible refine (JX.out _).mono ?_); rintro e w1 ⟨rfl, hb⟩; exact ⟨rfl, hb⟩)); clear hK K))
  refine wpB_nil ?_
  intro w2 hw2 hI2
  clear c0 c1 c2 hF
  (refine wpR_step (fun K hK => ?_); go_simp; refine hK _ _ ⟨hI2.alloc hI2.size _, ?_⟩; clear hK K)
  intro w3 hw3 hI3
  have N3 := (Blk.new w2 71 #[.int .i64 0, .int .i64 0, .int .i64 0]).below hw3 (by simp)
  have f0 := N3.frozen 0
  have f1 := N3.frozen 1
  have f2 := N3.frozen 2
  obtain ⟨n9, n0, n1, n2⟩ := (Three.new w2 (.int .i64 0) (.int .i64 0) (.int .i64 0) 71).later hw3
  have hge : W.heap.size ≤ w2.heap.size := hI2.size
  (refine wpR_step (fun K hK => ?_); go_simp; refine hK _ _ ⟨((hI3.setCell hge _).setCell hge _).setCell hge _, ?_⟩; clear hK K)
  intro w4 hw4 hI4
  refine wpR_nil ?_
  have N4 := three_of_blk ((((N3.set_ 0 (.int .i64 (u0 : Int))).set_ 1 (.int .i64 (u1 : Int))).set_ 2 (.int .i64 (u2 : Int))).below hw4 (by simpa using n9))
  clear f0 f1 f2 n0 n1 n2 N3 hw4 hI3 hI2 hw2 hw3 n9 hge
  replace k6' := bstep k6' hI4
  have A4 := (show Three W g7 _ _ _ from ⟨q9, q0, q1, q2⟩).later hI4
  have B4 := S6.later hI4
  clear S6 hI4 q9 q0 q1 q2
  go_wp2_with fail
  generalize w2.heap.size = g14 at *
  clear W
  generalize w4 = W at *
  have M4 := N4
  clear N4
  obtain ⟨q9, q0, q1, q2⟩ := B4
  refine wp_region_mix 7 2 (fun w' => Below W.heap.size W w') (by kernel_rfl) (by kernel_rfl) (fun _ _ h1 h2 => bstep h1 h2) (Below.refl _ _) ?_
  intro ι F hne hF
  have c0 : ∀ i, (F i).cell? ⟨g9, 0, none⟩ = some (.int .i64 (y0 : Int)) := fun i => ((hF i).cell (p := ⟨g9, 0, none⟩) q9).trans q0
  have c1 : ∀ i, (F i).cell? ⟨g9, 1, none⟩ = some (.int .i64 (y1 : Int)) := fun i => ((hF i).cell (p := ⟨g9, 1, none⟩) q9).trans q1
  have c2 : ∀ i, (F i).cell? ⟨g9, 2, none⟩ = some (.int .i64 (y2 : Int)) := fun i => ((hF i).cell (p := ⟨g9, 2, none⟩) q9).trans q2
  simp only [List.take_succ_cons, List.take_zero, List.drop_succ_cons, List.drop_zero]
  repeat (refine wpB_step (fun K hK => ?_); go_simp; first | (refine hK _ ?_; clear hK K) | (apply Exists.intro; refine ⟨fun _ => ?_, hK _ ?_⟩; (first | ((with_reducible refine (PA.out _).mono ?_); rintro e w1 ⟨rfl, hb⟩; exact ⟨rfl, hb⟩) | ((with_reducible refine (JY.out _).mono ?_); rintro e w1 ⟨rfl, hb⟩; exact ⟨rfl, hb⟩)); clear hK K))
  refine wpB_nil ?_
  intro w2 hw2 hI2
  clear c0 c1 c2 hF
  (refine wpR_step (fun K hK => ?_); go_simp; refine hK _ _ ⟨hI2.alloc hI2.size _, ?_⟩; clear hK K)
  intro w3 hw3 hI3
  have N3 := (Blk.new w2 71 #[.int .i64 0, .int .i64 0, .int .i64 0]).below hw3 (by simp)
  have f0 := N3.frozen 0
  have f1 := N3.frozen 1
  have f2 := N3.frozen 2
  obtain ⟨n9, n0, n1, n2⟩ := (Three.new w2 (.int .i64 0) (.int .i64 0) (.int .i64 0) 71).later hw3
  have hge : W.heap.size ≤ w2.heap.size := hI2.size
  (refine wpR_step (fun K hK => ?_); go_simp; refine hK _ _ ⟨((hI3.setCell hge _).setCell hge _).setCell hge _, ?_⟩; clear hK K)
  intro w4 hw4 hI4
  refine wpR_nil ?_
  have N4 := three_of_blk ((((N3.set_ 0 (.int .i64 (u0 : Int))).set_ 1 (.int .i64 (u1 : Int))).set_ 2 (.int .i64 (u2 : Int))).below hw4 (by simpa using n9))
  clear f0 f1 f2 n0 n1 n2 N3 hw4 hI3 hI2 hw2 hw3 n9 hge
  replace k6' := bstep k6' hI4
  have A5 := A4.later hI4
  have M5 := M4.later hI4
  clear A4 M4 hI4 q9 q0 q1 q2
  have BA := Lib.hid (fun W => posOf_any ⟨#[98, 10, 97]⟩ W (by decide))
  have hb3 : lnsL (⟨#[98, 10, 97]⟩ : ByteArray).data.toList = 1 ∧ colL (⟨#[98, 10, 97]⟩ : ByteArray).data.toList = 1 := ⟨rfl, rfl⟩
  unfold posv at BA
  rw [hb3.1, hb3.2, show (⟨#[98, 10, 97]⟩ : ByteArray).data.toList.length = 3 from rfl] at BA
  clear hb3
  have F0 : ∀ W, (Instr.field 71 (.agg #[.int .i64 3, .int .i64 1, .int .i64 1]) 0).run Try.prog W = .ok (.int .i64 3) W := fun _ => by kernel_rfl
  go_wp2_with fail
  generalize w2.heap.size = g16 at *
  clear W
  generalize w4 = W at *
  obtain ⟨a9, a0', a1', a2'⟩ := A5
  obtain ⟨m9, m0', m1', m2'⟩ := M5
  obtain ⟨n9, n0', n1', n2'⟩ := N4
  refine wp_region_below (by kernel_rfl) (by kernel_rfl) ?_
  intro ι F hne hF hG
  have c0 : ∀ i, (F i).cell? ⟨g7, 0, none⟩ = some (.int .i64 (x0 : Int)) := fun i => ((hF i).cell (p := ⟨g7, 0, none⟩) a9).trans a0'
  have c1 : ∀ i, (F i).cell? ⟨g7, 1, none⟩ = some (.int .i64 (x1 : Int)) := fun i => ((hF i).cell (p := ⟨g7, 1, none⟩) a9).trans a1'
  have c2 : ∀ i, (F i).cell? ⟨g7, 2, none⟩ = some (.int .i64 (x2 : Int)) := fun i => ((hF i).cell (p := ⟨g7, 2, none⟩) a9).trans a2'
  have d0' : ∀ i, (F i).cell? ⟨g14, 0, none⟩ = some (.int .i64 (u0 : Int)) := fun i => ((hF i).cell (p := ⟨g14, 0, none⟩) m9).trans m0'
  have d1' : ∀ i, (F i).cell? ⟨g14, 1, none⟩ = some (.int .i64 (u1 : Int)) := fun i => ((hF i).cell (p := ⟨g14, 1, none⟩) m9).trans m1'
  have d2' : ∀ i, (F i).cell? ⟨g14, 2, none⟩ = some (.int .i64 (u2 : Int)) := fun i => ((hF i).cell (p := ⟨g14, 2, none⟩) m9).trans m2'
  have e0' : ∀ i, (F i).cell? ⟨g16, 0, none⟩ = some (.int .i64 (u0 : Int)) := fun i => ((hF i).cell (p := ⟨g16, 0, none⟩) n9).trans n0'
  have e1' : ∀ i, (F i).cell? ⟨g16, 1, none⟩ = some (.int .i64 (u1 : Int)) := fun i => ((hF i).cell (p := ⟨g16, 1, none⟩) n9).trans n1'
  have e2' : ∀ i, (F i).cell? ⟨g16, 2, none⟩ = some (.int .i64 (u2 : Int)) := fun i => ((hF i).cell (p := ⟨g16, 2, none⟩) n9).trans n2'
  clear a0' a1' a2' m0' m1' m2' n0' n1' n2' a9 m9 n9
  repeat go_big_quiet_step (first
    | ((with_reducible refine (BA.out _).mono ?_); rintro e w1 ⟨rfl, hb⟩; exact ⟨rfl, hG _ _ hb⟩)
    | ((with_reducible refine (PAB.out _).mono ?_); rintro e w1 ⟨rfl, hb⟩; exact ⟨rfl, hG _ _ hb⟩)
    | ((with_reducible refine (PABC.out _).mono ?_); rintro e w1 ⟨rfl, hb⟩; exact ⟨rfl, hG _ _ hb⟩)
    | ((with_reducible refine (MU.out _).mono ?_); rintro e w1 ⟨rfl, hb⟩; exact ⟨rfl, hG _ _ hb⟩))
  refine wpQuiet_nil ?_
  intro _ hw'
  obtain ⟨nq, rfl⟩ := hw'
  have hbF := hF nq
  generalize F nq = wz at *
  clear c0 c1 c2 d0' d1' d2' e0' e1' e2' hF hG
  go_wp2_with fail
  go_ret
  exact ⟨rfl, bstep k6' hbF⟩
end Go.Proofs.Ytcgcakmpjeodfaa
