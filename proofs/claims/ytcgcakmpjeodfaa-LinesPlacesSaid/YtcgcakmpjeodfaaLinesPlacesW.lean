/-
  The walk of the law LinesPlaces: whatever its input, it returns true and changes nothing that was there.
-/
import Derived.Test.YtcgcakmpjeodfaaLine
import Derived.Test.YtcgcakmpjeodfaaPos
import Derived.Test.YtcgcakmpjeodfaaEd
import Derived.Test.YtcgcakmpjeodfaaCopy
import Derived.Test.YtcgcakmpjeodfaaReg
namespace Go.Proofs.Ytcgcakmpjeodfaa
open Go.RowKit
set_option linter.unusedVariables false

set_option maxRecDepth 100000 in
set_option maxHeartbeats 4000000 in
theorem linesPlaces_walk (w : World) (v0 : Value) (l : List Int) (h0 : Row .i64 w v0 l) (x1 : Int) (hx1 : -9223372036854775808 ≤ x1 ∧ x1 ≤ 9223372036854775807) :
    Calls Try.prog 9 #[v0, .int .i64 x1] w fun e w' => e = .returned (.bool true) ∧ Below w.heap.size w w' := by
  go_enter Try.func9, Try.ntmps9
  go_wp2_with fail
  refine (textOf_any v0 l 120 _ h0 (by omega) (by omega)).mono ?_
  rintro e w1 ⟨s, rfl, es0, rfl⟩
  have ss := text_len _ _ _ es0; clear es0
  simp only [show Int.toNat 120 = 120 from rfl] at ss
  go_wp2_with fail
  refine (picked_any x1 ((s.size : Int) + 1) _ hx1 (by omega) (by omega)).mono ?_
  rintro e w1 ⟨rfl, rfl⟩
  have m1 := Int.emod_nonneg x1 (show ((s.size : Int) + 1) ≠ 0 by omega)
  have m2 := Int.emod_lt_of_pos x1 (show (0 : Int) < (s.size : Int) + 1 by omega)
  generalize x1 % ((s.size : Int) + 1) = y1 at *
  obtain ⟨k, rfl⟩ : ∃ n : Nat, y1 = (n : Int) := ⟨y1.toNat, by omega⟩
  clear m1 hx1 h0
  have hk : k ≤ s.size := by omega
  have hl : s.data.toList.length = s.size := by simp
  clear m2
  have LN := Lib.hid (fun W v (h : Row .i64 W v (starts s.data.toList)) => line_any v (starts s.data.toList) k W h (asc_starts s (by omega)) (by have := starts_len s.data.toList; omega) (starts_sorted _))
  have AT := Lib.hid (atMost_starts s.data.toList k (by omega))
  have SA := Lib.hid (start_at s.data.toList k (by omega))
  have SL := Lib.hid (starts_len_eq s.data.toList)
  have AK := Lib.hid (fun W => posAt_any s k W (by omega) hk)
  have OF := Lib.hid (fun W => posOf_any s W (by omega))
  have hlk : (s.data.toList.take k).length = k := by rw [List.length_take]; omega
  rw [AT.out] at LN
  clear AT
  unfold posv at AK OF
  rw [hlk] at AK
  have c1 := col_le (s.data.toList.take k)
  have c2 := col_le s.data.toList
  rw [hl] at OF c2
  rw [hlk] at c1
  have e1 : ((((lnsL (s.data.toList.take k) + 1 : Nat) : Int)) - 1) = (lnsL (s.data.toList.take k) : Int) := by omega
  rw [e1] at LN
  clear e1 hlk
  go_wp2_with fail
  refine (Starts_any s _ (by omega)).mono ?_
  rintro e w1 ⟨v, rfl, hr, hb1⟩
  have hsl := starts_len s.data.toList
  obtain ⟨A, c, rfl, hlc, hc, hwf, hrd⟩ := id hr
  go_wp2_with (at_builtin; refine wpList_copyInts rfl (.tmp 26) _ rfl 3 .i64 _ 8 Try.underlying22 int_info rfl _ (starts s.data.toList) rfl hr (by omega) (by omega) ?_)
  intro v2 w2 hown2 hr2 hb2
  have k2 := bstep hb1 hb2
  replace hr := hr.later hb2
  clear hown2 hb1 hb2 hrd
  go_wp2_with fail
  refine (LN.out _ _ hr2).mono ?_
  rintro e w3 ⟨rfl, hb3⟩
  replace k2 := bstep k2 hb3
  replace hr := hr.later hb3
  clear LN hb3 hr2
  go_wp2_with fail
  refine (AK.out _).mono ?_
  rintro e w4 ⟨rfl, hb4⟩
  replace k2 := bstep k2 hb4
  replace hr := hr.later hb4
  clear hb4 AK
  obtain ⟨A', c', hv, -, -, -, hrd⟩ := hr
  injection hv with hv1 hv2 hv3
  subst hv1; subst hv3
  obtain ⟨b, off, rfl, hb, hcell⟩ := Row.at_ hrd SA.out.2
  rw [SA.out.1] at hcell
  have hlt := SA.out.2
  rw [SL.out] at *
  generalize lnsL (s.data.toList.take k) = n at *
  generalize colL (s.data.toList.take k) = q at *
  generalize lnsL s.data.toList = m at *
  generalize colL s.data.toList = q2 at *
  have T1 := Three.new w4 (.int .i64 (k : Int)) (.int .i64 (n : Int)) (.int .i64 (q : Int)) 71
  obtain ⟨T9, T0, T1, T2⟩ := T1
  have hcell2 : (w4.alloc (.cells #[.int .i64 (k : Int), .int .i64 (n : Int), .int .i64 (q : Int)] 71)).cell? ⟨b, off + n, none⟩ = some (.int .i64 ((k : Int) - q)) := by
    rw [World.cell?_alloc_lt _ _ _ (by exact hb)]; exact hcell
  have hb2 : b < (w4.alloc (.cells #[.int .i64 (k : Int), .int .i64 (n : Int), .int .i64 (q : Int)] 71)).heap.size := by simp; omega
  have k3 := k2.alloc k2.size (.cells #[.int .i64 (k : Int), .int .i64 (n : Int), .int .i64 (q : Int)] 71)
  clear SA SL hcell hb k2 hwf hrd
  go_wp2_with fail
  generalize hg : w4.heap.size = g at *
  generalize w4.alloc (.cells #[.int .i64 (k : Int), .int .i64 (n : Int), .int .i64 (q : Int)] 71) = W at *
  clear hg
  have F0 : ∀ W, (Instr.field 71 (.agg #[.int .i64 (s.size : Int), .int .i64 (m : Int), .int .i64 (q2 : Int)]) 1).run Try.prog W = .ok (.int .i64 m) W := fun _ => by kernel_rfl
  have e5 : (k : Int) - ((k : Int) - (q : Int)) = q := by omega
  refine wp_region_below (by kernel_rfl) (by kernel_rfl) ?_
  intro ι F hne hF hG
  have c0 : ∀ i, (F i).cell? ⟨g, 1, none⟩ = some (.int .i64 (n : Int)) := fun i => ((hF i).cell (p := ⟨g, 1, none⟩) T9).trans T1
  have d0 : ∀ i, (F i).cell? ⟨g, 2, none⟩ = some (.int .i64 (q : Int)) := fun i => ((hF i).cell (p := ⟨g, 2, none⟩) T9).trans T2
  have f0 : ∀ i, (F i).cell? ⟨b, off + n, none⟩ = some (.int .i64 ((k : Int) - q)) := fun i => ((hF i).cell (p := ⟨b, off + n, none⟩) hb2).trans hcell2
  clear hcell2 T0 T1 T2
  have g0 : decide ((0 : Int) ≤ (n : Int)) = true := by simp
  have g1 : decide (n < m + 1) = true := by simp; omega
  have g2 : (0 : Int) ≤ (n : Int) := by omega
  have g3 : (n : Int) < (m : Int) + 1 := by omega
  repeat go_big_quiet_step (first | ((with_reducible refine (OF.out _).mono ?_); rintro e w1 ⟨rfl, hb⟩; exact ⟨rfl, hG _ _ hb⟩))
  refine wpQuiet_nil ?_
  intro _ hw'
  obtain ⟨nq, rfl⟩ := hw'
  have hbF := hF nq
  generalize F nq = wz at *
  clear c0 d0 f0 hF hG
  go_wp2_with fail
  go_ret
  exact ⟨ret_bool (by first | rfl | (simp; omega)), bstep k3 hbF⟩
end Go.Proofs.Ytcgcakmpjeodfaa
