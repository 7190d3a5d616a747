/-
  The walk of the law PosOrder: whatever its input, it returns true and changes nothing that was there.
-/
import Derived.Test.YtcgcakmpjeodfaaPos
import Derived.Test.YtcgcakmpjeodfaaEd
namespace Go.Proofs.Ytcgcakmpjeodfaa
open Go.RowKit
set_option linter.unusedVariables false

theorem take_more (l : List UInt8) (i k : Nat) (h : i < k) (hk : k ≤ l.length) : ∃ m, m ≠ [] ∧ l.take k = l.take i ++ m := by
  refine ⟨(l.drop i).take (k - i), ?_, ?_⟩
  · intro e
    have := congrArg List.length e
    rw [List.length_take, List.length_drop] at this
    simp at this; omega
  · rw [← List.take_add]; congr 1; omega
theorem bna_len : (⟨#[98, 10, 97]⟩ : ByteArray).data.toList.length = 3 := rfl
set_option maxRecDepth 100000 in
set_option maxHeartbeats 4000000 in
theorem posOrder_walk (w : World) (v0 : Value) (l : List Int) (h0 : Row .i64 w v0 l) (x1 : Int) (hx1 : -9223372036854775808 ≤ x1 ∧ x1 ≤ 9223372036854775807) (x2 : Int) (hx2 : -9223372036854775808 ≤ x2 ∧ x2 ≤ 9223372036854775807) :
    Calls Try.prog 6 #[v0, .int .i64 x1, .int .i64 x2] w fun e w' => e = .returned (.bool true) ∧ Below w.heap.size w w' := by
  go_enter Try.func6, Try.ntmps6
  go_wp2_with fail
  refine (textOf_any v0 l 100 _ h0 (by omega) (by omega)).mono ?_
  rintro e w1 ⟨s, rfl, es0, rfl⟩
  have ss := text_len _ _ _ es0; clear es0
  simp only [show Int.toNat 100 = 100 from rfl] at ss
  go_wp2_with fail
  refine (picked_any x1 ((s.size : Int) + 1) _ hx1 (by omega) (by omega)).mono ?_
  rintro e w1 ⟨rfl, rfl⟩
  have m1 := Int.emod_nonneg x1 (show ((s.size : Int) + 1) ≠ 0 by omega)
  have m2 := Int.emod_lt_of_pos x1 (show (0 : Int) < (s.size : Int) + 1 by omega)
  generalize x1 % ((s.size : Int) + 1) = y1 at *
  obtain ⟨i, rfl⟩ : ∃ n : Nat, y1 = (n : Int) := ⟨y1.toNat, by omega⟩
  clear m1 hx1
  go_wp2_with fail
  refine (picked_any x2 ((s.size : Int) + 1) _ hx2 (by omega) (by omega)).mono ?_
  rintro e w1 ⟨rfl, rfl⟩
  have m3 := Int.emod_nonneg x2 (show ((s.size : Int) + 1) ≠ 0 by omega)
  have m4 := Int.emod_lt_of_pos x2 (show (0 : Int) < (s.size : Int) + 1 by omega)
  generalize x2 % ((s.size : Int) + 1) = y2 at *
  obtain ⟨k, rfl⟩ : ∃ n : Nat, y2 = (n : Int) := ⟨y2.toNat, by omega⟩
  clear m3 hx2 h0
  have hi : i ≤ s.size := by omega
  have hk : k ≤ s.size := by omega
  have hl : s.data.toList.length = s.size := by simp
  clear m2 m4
  have AI := Lib.hid (fun W => posAt_any s i W (by omega) hi)
  have AK := Lib.hid (fun W => posAt_any s k W (by omega) hk)
  have BA := Lib.hid (fun W => posOf_any ⟨#[98, 10, 97]⟩ W (by decide))
  have hb3 : lnsL (⟨#[98, 10, 97]⟩ : ByteArray).data.toList = 1 ∧ colL (⟨#[98, 10, 97]⟩ : ByteArray).data.toList = 1 := ⟨rfl, rfl⟩
  unfold posv at BA
  rw [hb3.1, hb3.2, bna_len] at BA
  clear hb3
  have F0 : ∀ W, (Instr.field 71 (.agg #[.int .i64 3, .int .i64 1, .int .i64 1]) 0).run Try.prog W = .ok (.int .i64 3) W := fun _ => by kernel_rfl
  by_cases hik : i = k
  · subst hik
    clear AK
    unfold posv at AI
    generalize (s.data.toList.take i).length = p0 at *
    generalize lnsL (s.data.toList.take i) = p1 at *
    generalize colL (s.data.toList.take i) = p2 at *
    go_wp2_with fail
    refine (AI.out _).mono ?_
    rintro e w1 ⟨rfl, hb1⟩
    have T1 := Lib.hid (Three.new w1 (.int .i64 (p0 : Int)) (.int .i64 (p1 : Int)) (.int .i64 (p2 : Int)) 71)
    go_wp2_with fail
    refine (AI.out _).mono ?_
    rintro e w2 ⟨rfl, hb2⟩
    have T2 := Lib.hid (Three.new w2 (.int .i64 (p0 : Int)) (.int .i64 (p1 : Int)) (.int .i64 (p2 : Int)) 71)
    go_wp2_with fail
    refine (BA.out _).mono ?_
    rintro e w3 ⟨rfl, hb3⟩
    obtain ⟨A9, A0, A1, A2⟩ := ((T1.out.later hb2).alloc _).later hb3
    obtain ⟨B9, B0, B1, B2⟩ := T2.out.later hb3
    have k2 := bstep (hb1.alloc hb1.size _) hb2
    have k3 := bstep (k2.alloc k2.size _) hb3
    clear hb1 hb2 hb3 k2 AI BA
    go_wp2_with fail
    go_ret
    exact ⟨rfl, k3⟩
  · have hne : ((i : Int) == (k : Int)) = false := by simp; omega
    rcases Nat.lt_or_gt_of_ne hik with hlt | hlt
    · obtain ⟨m, hm, em⟩ := take_more s.data.toList i k hlt (by omega)
      have po := pos_order (s.data.toList.take i) m hm
      rw [← em] at po
      clear em hm
      unfold posv at AI AK
      generalize (s.data.toList.take i).length = p0 at *
      generalize lnsL (s.data.toList.take i) = p1 at *
      generalize colL (s.data.toList.take i) = p2 at *
      generalize (s.data.toList.take k).length = q0 at *
      generalize lnsL (s.data.toList.take k) = q1 at *
      generalize colL (s.data.toList.take k) = q2 at *
      have hmn : min (i : Int) (k : Int) = (i : Int) := by omega
      have hmx : max (i : Int) (k : Int) = (k : Int) := by omega
      rcases po with po | ⟨po, pc⟩
      · go_wp2_with fail
        refine (AI.out _).mono ?_
        rintro e w1 ⟨rfl, hb1⟩
        have T1 := Lib.hid (Three.new w1 (.int .i64 (p0 : Int)) (.int .i64 (p1 : Int)) (.int .i64 (p2 : Int)) 71)
        go_wp2_with fail
        refine (AK.out _).mono ?_
        rintro e w2 ⟨rfl, hb2⟩
        have T2 := Lib.hid (Three.new w2 (.int .i64 (q0 : Int)) (.int .i64 (q1 : Int)) (.int .i64 (q2 : Int)) 71)
        go_wp2_with fail
        refine (BA.out _).mono ?_
        rintro e w3 ⟨rfl, hb3⟩
        obtain ⟨A9, A0, A1, A2⟩ := ((T1.out.later hb2).alloc _).later hb3
        obtain ⟨B9, B0, B1, B2⟩ := T2.out.later hb3
        have k2 := bstep (hb1.alloc hb1.size _) hb2
        have k3 := bstep (k2.alloc k2.size _) hb3
        clear hb1 hb2 hb3 k2 AI AK BA
        go_wp2_with fail
        go_ret
        exact ⟨ret_bool (by first | rfl | (simp; omega)), k3⟩
      · subst po
        go_wp2_with fail
        refine (AI.out _).mono ?_
        rintro e w1 ⟨rfl, hb1⟩
        have T1 := Lib.hid (Three.new w1 (.int .i64 (p0 : Int)) (.int .i64 (p1 : Int)) (.int .i64 (p2 : Int)) 71)
        go_wp2_with fail
        refine (AK.out _).mono ?_
        rintro e w2 ⟨rfl, hb2⟩
        have T2 := Lib.hid (Three.new w2 (.int .i64 (q0 : Int)) (.int .i64 (p1 : Int)) (.int .i64 (q2 : Int)) 71)
        go_wp2_with fail
        refine (BA.out _).mono ?_
        rintro e w3 ⟨rfl, hb3⟩
        obtain ⟨A9, A0, A1, A2⟩ := ((T1.out.later hb2).alloc _).later hb3
        obtain ⟨B9, B0, B1, B2⟩ := T2.out.later hb3
        have k2 := bstep (hb1.alloc hb1.size _) hb2
        have k3 := bstep (k2.alloc k2.size _) hb3
        clear hb1 hb2 hb3 k2 AI AK BA
        go_wp2_with fail
        go_ret
        exact ⟨ret_bool (by first | rfl | (simp; omega)), k3⟩
    · obtain ⟨m, hm, em⟩ := take_more s.data.toList k i hlt (by omega)
      have po := pos_order (s.data.toList.take k) m hm
      rw [← em] at po
      clear em hm
      unfold posv at AI AK
      generalize (s.data.toList.take i).length = p0 at *
      generalize lnsL (s.data.toList.take i) = p1 at *
      generalize colL (s.data.toList.take i) = p2 at *
      generalize (s.data.toList.take k).length = q0 at *
      generalize lnsL (s.data.toList.take k) = q1 at *
      generalize colL (s.data.toList.take k) = q2 at *
      have hmn : min (i : Int) (k : Int) = (k : Int) := by omega
      have hmx : max (i : Int) (k : Int) = (i : Int) := by omega
      rcases po with po | ⟨po, pc⟩
      · go_wp2_with fail
        refine (AK.out _).mono ?_
        rintro e w1 ⟨rfl, hb1⟩
        have T1 := Lib.hid (Three.new w1 (.int .i64 (q0 : Int)) (.int .i64 (q1 : Int)) (.int .i64 (q2 : Int)) 71)
        go_wp2_with fail
        refine (AI.out _).mono ?_
        rintro e w2 ⟨rfl, hb2⟩
        have T2 := Lib.hid (Three.new w2 (.int .i64 (p0 : Int)) (.int .i64 (p1 : Int)) (.int .i64 (p2 : Int)) 71)
        go_wp2_with fail
        refine (BA.out _).mono ?_
        rintro e w3 ⟨rfl, hb3⟩
        obtain ⟨A9, A0, A1, A2⟩ := ((T1.out.later hb2).alloc _).later hb3
        obtain ⟨B9, B0, B1, B2⟩ := T2.out.later hb3
        have k2 := bstep (hb1.alloc hb1.size _) hb2
        have k3 := bstep (k2.alloc k2.size _) hb3
        clear hb1 hb2 hb3 k2 AI AK BA
        go_wp2_with fail
        go_ret
        exact ⟨ret_bool (by first | rfl | (simp; omega)), k3⟩
      · subst po
        go_wp2_with fail
        refine (AK.out _).mono ?_
        rintro e w1 ⟨rfl, hb1⟩
        have T1 := Lib.hid (Three.new w1 (.int .i64 (q0 : Int)) (.int .i64 (q1 : Int)) (.int .i64 (q2 : Int)) 71)
        go_wp2_with fail
        refine (AI.out _).mono ?_
        rintro e w2 ⟨rfl, hb2⟩
        have T2 := Lib.hid (Three.new w2 (.int .i64 (p0 : Int)) (.int .i64 (q1 : Int)) (.int .i64 (p2 : Int)) 71)
        go_wp2_with fail
        refine (BA.out _).mono ?_
        rintro e w3 ⟨rfl, hb3⟩
        obtain ⟨A9, A0, A1, A2⟩ := ((T1.out.later hb2).alloc _).later hb3
        obtain ⟨B9, B0, B1, B2⟩ := T2.out.later hb3
        have k2 := bstep (hb1.alloc hb1.size _) hb2
        have k3 := bstep (k2.alloc k2.size _) hb3
        clear hb1 hb2 hb3 k2 AI AK BA
        go_wp2_with fail
        go_ret
        exact ⟨ret_bool (by first | rfl | (simp; omega)), k3⟩
end Go.Proofs.Ytcgcakmpjeodfaa
