/-
  The walk of the law PosBack: whatever its input, it returns true and changes nothing that was there.
-/
import Derived.Test.YtcgcakmpjeodfaaPosF
namespace Go.Proofs.Ytcgcakmpjeodfaa
open Go.RowKit
set_option linter.unusedVariables false

/-- At the line and the column of a place the search finds the place. -/
theorem find_back (l : List UInt8) (k : Nat) (hk : k ≤ l.length) (z : Nat × Nat) (h : FindIs l (lnsL (l.take k)) (colL (l.take k)) z) : z = (k, 0) := by
  rcases h with ⟨h, _⟩ | ⟨a, wd, h1, h2, h3, h4, h5, h6⟩
  · have := lnsL_append (l.take k) (l.drop k)
    rw [List.take_append_drop] at this; omega
  · have ha : a ≤ k := by
      refine Nat.le_of_not_lt fun hlt => ?_
      have e : l.take a = l.take k ++ (l.drop k).take (a - k) := by rw [← List.take_add]; congr 1; omega
      have e1 := lnsL_append (l.take k) ((l.drop k).take (a - k))
      rw [← e, h2] at e1
      have e2 := colL_append (l.take k) ((l.drop k).take (a - k))
      rw [← e, if_pos (by omega), h3, List.length_take, List.length_drop] at e2
      omega
    have e : l.take k = l.take a ++ (l.drop a).take (k - a) := by rw [← List.take_add]; congr 1; omega
    have e1 := lnsL_append (l.take a) ((l.drop a).take (k - a))
    rw [← e, h2] at e1
    have e2 := colL_append (l.take a) ((l.drop a).take (k - a))
    rw [← e, if_pos (by omega), h3, List.length_take, List.length_drop] at e2
    have hw : colL (l.take k) ≤ wd := by
      refine Nat.le_of_not_lt fun hlt => ?_
      rcases h5 with h5 | h5
      · omega
      · have hz : lnsL ((l.drop a).take (k - a)) = 0 := by omega
        have hm := (lnsL_zero _).1 hz 10 (by
          refine List.mem_of_getElem? (i := wd) ?_
          rw [List.getElem?_take, if_pos (by omega), List.getElem?_drop]; exact h5)
        exact hm rfl
    rw [h6, if_pos hw]
    congr 1; omega
theorem find_none (l : List UInt8) (z : Nat × Nat) (h : FindIs l (lnsL l + 1) 0 z) : z = (0, 2) := by
  rcases h with ⟨_, h⟩ | ⟨a, wd, h1, h2, _⟩
  · exact h
  · have := lnsL_append (l.take a) (l.drop a)
    rw [List.take_append_drop] at this; omega
set_option maxRecDepth 100000 in
set_option maxHeartbeats 4000000 in
theorem posBack_walk (w : World) (v0 : Value) (l : List Int) (h0 : Row .i64 w v0 l) (x1 : Int) (hx1 : -9223372036854775808 ≤ x1 ∧ x1 ≤ 9223372036854775807) :
    Calls Try.prog 8 #[v0, .int .i64 x1] w fun e w' => e = .returned (.bool true) ∧ Below w.heap.size w w' := by
  go_enter Try.func8, Try.ntmps8
  go_wp2_with fail
  refine (textOf_any v0 l 100 _ h0 (by omega) (by omega)).mono ?_
  rintro e w1 ⟨s, rfl, es0, rfl⟩
  have ss := text_len _ _ _ es0; clear es0
  simp only [show Int.toNat 100 = 100 from rfl] at ss
  go_wp2_with fail
  refine (picked_any x1 ((s.size : Int) + 1) _ hx1 (by omega) (by omega)).mono ?_
  rintro e w1 ⟨rfl, rfl⟩
  have m1 := Int.emod_nonneg x1 (show ((s.size : Int) + 1) ≠ 0 by omega)
  have m2 := Int.emod_lt_of_pos x1 (show (0 : Int) < (s.size : Int) + 1 by omega)
  generalize x1 % ((s.size : Int) + 1) = y1 at *
  obtain ⟨k, rfl⟩ : ∃ n : Nat, y1 = (n : Int) := ⟨y1.toNat, by omega⟩
  clear m1 hx1 h0
  have hk : k ≤ s.size := by omega
  have hl : s.data.toList.length = s.size := by simp
  clear m2
  have c1 := col_le (s.data.toList.take k)
  have c2 := col_le s.data.toList
  have hlk : (s.data.toList.take k).length = k := by rw [List.length_take]; omega
  have AK := Lib.hid (fun W => posAt_any s k W (by omega) hk)
  have OF := Lib.hid (fun W => posOf_any s W (by omega))
  have FI := Lib.hid (fun W => posFind_any s (lnsL (s.data.toList.take k)) (colL (s.data.toList.take k)) W (by omega) (by omega) (by omega))
  have FN := Lib.hid (fun W => posFind_any s (lnsL s.data.toList + 1) 0 W (by omega) (by omega) (by omega))
  have B1 := Lib.hid (fun z => find_back s.data.toList k (by omega) z)
  have B2 := Lib.hid (fun z => find_none s.data.toList z)
  unfold posv at AK OF
  rw [hlk] at AK c1
  rw [hl] at OF c2
  generalize lnsL (s.data.toList.take k) = p1 at *
  generalize colL (s.data.toList.take k) = p2 at *
  generalize lnsL s.data.toList = q1 at *
  generalize colL s.data.toList = q2 at *
  clear hlk
  have F0 : ∀ W, (Instr.field 71 (.agg #[.int .i64 (s.size : Int), .int .i64 (q1 : Int), .int .i64 (q2 : Int)]) 1).run Try.prog W = .ok (.int .i64 q1) W := fun _ => by kernel_rfl
  go_wp2_with fail
  refine (AK.out _).mono ?_
  rintro e w1 ⟨rfl, hb1⟩
  have T1 := Lib.hid (Three.new w1 (.int .i64 (k : Int)) (.int .i64 (p1 : Int)) (.int .i64 (p2 : Int)) 71)
  go_wp2_with fail
  refine (FI.out _).mono ?_
  rintro e w2 ⟨z, rfl, hz, hb2⟩
  obtain rfl := B1.out z hz
  have T2 := Lib.hid (T1.out.later hb2)
  have k2 := bstep (hb1.alloc hb1.size _) hb2
  clear T1 hb1 hb2 hz B1 FI AK
  go_wp2_with fail
  refine (OF.out _).mono ?_
  rintro e w3 ⟨rfl, hb3⟩
  have T3 := Lib.hid (T2.out.later hb3)
  replace k2 := bstep k2 hb3
  clear T2 hb3 OF
  go_wp2_with fail
  refine (FN.out _).mono ?_
  rintro e w4 ⟨z, rfl, hz, hb4⟩
  obtain rfl := B2.out z hz
  obtain ⟨A9, A0, A1, A2⟩ := T3.out.later hb4
  replace k2 := bstep k2 hb4
  clear T3 hb4 hz B2 FN
  go_wp2_with fail
  go_ret
  exact ⟨ret_bool (by first | rfl | (simp; omega)), k2⟩
end Go.Proofs.Ytcgcakmpjeodfaa
