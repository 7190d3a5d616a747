/-
  The walk of the law EditUndone: whatever its input, it returns true and changes nothing that was there.
-/
import Derived.Test.YtafbkdgdhglakaaInv
namespace Go.Proofs.Ytafbkdgdhglakaa
open Go.RowKit
set_option linter.unusedVariables false

set_option maxRecDepth 100000 in
set_option maxHeartbeats 2000000 in
theorem editUndone_walk (w : World) (v0 : Value) (l : List Int) (h0 : Row .i64 w v0 l) (v1 : Value) (cs : List Chg) (h1 : Chgs w v1 cs) :
    Calls Try.prog 8 #[v0, v1] w fun e w' => e = .returned (.bool true) ∧ Below w.heap.size w w' := by
  obtain ⟨i0, hi, hz0, hz1, hz2⟩ := info_parts edit_info
  go_enter Try.func8, Try.ntmps8
  go_wp2_with fail
  refine (textOf_any v0 l 100 _ h0 (by omega) (by omega)).mono ?_
  rintro e w1 ⟨s, rfl, es0, rfl⟩
  have ss := text_len _ _ _ es0; clear es0
  simp only [show Int.toNat 100 = 100 from rfl] at ss
  go_wp2_with fail
  refine (edits_any v1 cs 15 s.size _ h1 (by omega) (by omega)).mono ?_
  rintro e w1 ⟨ve, es, rfl, he, hv, hl, hb1⟩
  have ho := okr_of_vld es _ hv (by omega)
  have hp := vld_put600 es _ hv
  obtain ⟨o1, r1⟩ := back_rn es s (by omega) ho
  have tsz := rn_size es s ho
  have t600 := sized_600 es _ (by omega) ho
  rw [← tsz] at t600
  obtain ⟨o2, r2⟩ := back_rn (bk s es).reverse (rn s es) t600 o1
  have p1 := bk_put es s (by omega) ho
  have p2 := bk_put (bk s es).reverse (rn s es) t600 o1
  have p1' : ∀ e ∈ (bk s es).reverse, e.put.size ≤ 600 := fun e h => p1 e (by simpa using h)
  have p2' : ∀ e ∈ (bk (rn s es) (bk s es).reverse).reverse, e.put.size ≤ 600 := fun e h => p2 e (by simpa using h)
  have l1 : (bk s es).reverse.length = es.length := by rw [List.length_reverse, bk_len]
  have l2 : (bk (rn s es) (bk s es).reverse).reverse.length = es.length := by rw [List.length_reverse, bk_len, l1]
  rw [r1] at r2 o2
  clear p1 p2 tsz
  generalize hb : (bk s es).reverse = b1 at *
  generalize ht : rn s es = t at *
  generalize hb2' : (bk t b1).reverse = b2 at *
  have HB := Lib.hid hb
  have HT := Lib.hid ht
  have HB2 := Lib.hid hb2'
  have R1 := Lib.hid r1
  have R2 := Lib.hid r2
  have L1 := Lib.hid l1
  have L2 := Lib.hid l2
  clear hb ht hb2' r1 r2 l1 l2
  obtain ⟨A, c, rfl, hlc, hc, hr⟩ := id he
  go_wp2_with fail
  refine (edited_any s _ es _ he (by omega) (by omega) hp ho).mono ?_
  rintro e w2 ⟨rfl, hb2⟩
  rw [HT.out]
  have hr2 := (hr.below hb2).more hb2.size
  go_wp2_with (at_builtin; refine wpList_append_any _ rfl (.const (.slice none 0 0)) (.tmp 31) _ rfl w2.heap.size 61 i0 _ 3 32 Try.underlying46 hi hz0 hz1 hz2 rfl (by decide) (.slice none 0 0) 0 [] rfl (World.ownsRow_nil _ _ _ _) w2.heap.size A es.length c (edCells es) rfl hr2 (edCells_one es) (by unfold maxLen; omega) (by omega) (Nat.le_refl _) ?_)
  intro v3 w3 hown3 hg3 _
  have hb3 : Below w2.heap.size w2 w3 := (Below.refl _ _).grown hg3 (Nat.le_refl _) (by simp [Value.ownBlock])
  have he3 := EdRow.of_own hown3
  clear hown3 hg3
  go_wp2_with fail
  refine (invert_any s v3 es _ he3 (by omega) (by omega) hp ho).mono ?_
  rintro e w4 ⟨v4, rfl, he4, hb4⟩
  rw [HB.out] at he4
  clear he3
  go_wp2_with fail
  refine (edited_any t v4 b1 _ he4 t600 (by rw [L1.out]; omega) p1' o1).mono ?_
  rintro e w5 ⟨rfl, hb5⟩
  rw [R1.out]
  have he5 := he4.later hb5
  obtain ⟨A4, c4, rfl, hlc4, hc4, hr4⟩ := id he5
  clear he4
  go_wp2_with (at_builtin; refine wpList_append_any _ rfl (.const (.slice none 0 0)) (.tmp 44) _ rfl w5.heap.size 61 i0 _ 3 32 Try.underlying46 hi hz0 hz1 hz2 rfl (by decide) (.slice none 0 0) 0 [] rfl (World.ownsRow_nil _ _ _ _) w5.heap.size A4 b1.length c4 (edCells b1) rfl hr4 (edCells_one b1) (by rw [L1.out]; unfold maxLen; omega) (by rw [L1.out]; omega) (Nat.le_refl _) ?_)
  intro v6 w6 hown6 hg6 _
  have hb6 : Below w5.heap.size w5 w6 := (Below.refl _ _).grown hg6 (Nat.le_refl _) (by simp [Value.ownBlock])
  have he6 := EdRow.of_own hown6
  clear hown6 hg6
  go_wp2_with fail
  refine (invert_any t v6 b1 _ he6 t600 (by rw [L1.out]; omega) p1' o1).mono ?_
  rintro e w7 ⟨v7, rfl, he7, hb7⟩
  rw [HB2.out] at he7
  clear he6
  go_wp2_with fail
  refine (edited_any s v7 b2 _ he7 (by omega) (by rw [L2.out]; omega) p2' o2).mono ?_
  rintro e w8 ⟨rfl, hb8⟩
  rw [R2.out]
  have hle : ((b1.length : Int) == (es.length : Int)) = true := by rw [L1.out]; simp
  clear he7
  go_wp2_with fail
  go_ret
  exact ⟨ret_bool (by simp), bstep (bstep (bstep (bstep (bstep (bstep (bstep hb1 hb2) hb3) hb4) hb5) hb6) hb7) hb8⟩
end Go.Proofs.Ytafbkdgdhglakaa
