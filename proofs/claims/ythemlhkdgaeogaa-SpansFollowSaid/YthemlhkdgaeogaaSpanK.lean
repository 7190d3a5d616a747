/-
  The walks of spans.With, Add and Cut at sets that may be.
-/
import Derived.Test.YthemlhkdgaeogaaSpanA
import Derived.Test.YthemlhkdgaeogaaSpanJ
import Derived.Test.YthemlhkdgaeogaaOrdF
import Derived.Test.YthemlhkdgaeogaaOrd
namespace Go.Proofs.Ythemlhkdgaeogaa
open Go.RowKit Go.Shelf
set_option linter.unusedVariables false
set_option linter.unusedSimpArgs false

def IsWith (l : List Sp) (s : Sp) (o : List Sp) : Prop := Nrm 0 o ∧ (∀ i, inS o i = (inS l i || (decide (s.lo ≤ i) && decide (i < s.hi)))) ∧ o.length ≤ l.length + 1
def WithPost (l : List Sp) (s : Sp) (w : World) (e : Ending) (w' : World) : Prop :=
  ∃ v o, e = .returned v ∧ w'.ownsRow w.heap.size 73 2 v o.length (cellsOf spc o) ∧ IsWith l s o ∧ Below w.heap.size w w'
theorem put1_len (l : List Sp) (i : Nat) (x : Sp) (hi : i ≤ l.length) : (put1 l i x).length = l.length + 1 := by
  unfold put1; rw [List.length_append, List.length_cons, List.length_take, List.length_drop]; omega
theorem put1_small (l : List Sp) (i : Nat) (x : Sp) (h : Small l) (hx : x.lo ≤ 100000 ∧ x.hi ≤ 100000) : Small (put1 l i x) := by
  intro y hy
  unfold put1 at hy
  rw [List.mem_append, List.mem_cons] at hy
  rcases hy with hy | rfl | hy
  · exact h y (List.mem_of_mem_take hy)
  · exact hx
  · exact h y (List.mem_of_mem_drop hy)
theorem own_lt_ne9 {w : World} {base n g : Nat} {el : TypeId} {size : Nat} {v : Value} {xs : List Value} (h : w.ownsRow base el size v n xs) (hg : w.heap.size ≤ g) : v.ownBlock ≠ some g := by
  intro e; have := (h.lt _ e).2; omega
set_option maxRecDepth 100000 in
set_option maxHeartbeats 4000000 in
theorem with_any (v : Value) (l : List Sp) (s : Sp) (w : World) (base : Nat) (h : w.ownsRow base 73 2 v l.length (cellsOf spc l)) (hl : l.length ≤ 400) (hs : s.lo ≤ s.hi ∧ s.hi ≤ 100000) (hsm : Small l) (hN : Nrm 0 l) :
    Calls Try.prog 54 #[v, spv s] w (WithPost l s w) := by
  have hs2 : s.lo ≤ 100000 ∧ s.hi ≤ 100000 := by omega
  have BX := Blk.new w 73 #[.int .i64 (s.lo : Int), .int .i64 (s.hi : Int)]
  have hal := (Below.refl w.heap.size w).alloc (Nat.le_refl _) (.cells #[.int .i64 (s.lo : Int), .int .i64 (s.hi : Int)] 73)
  have HSE := Lib.hid (search_any v l s.lo _ ((CRow.of_own spc_len h).later hal) (by omega) hs2.1 hsm hN)
  have HCL := Lib.hid (fun W (hW : Below w.heap.size w W) => cloneSpan_any v l W base (own_below h hW) (by omega))
  have HN := Lib.hid hN
  have HSM := Lib.hid hsm
  obtain ⟨A, c, rfl, hc1, hc2⟩ := own_slice h
  unfold spv
  clear h hsm hN
  go_enter Try.func54, Try.ntmps54
  go_wp2_with fail
  refine HSE.out.mono ?_
  rintro e w1 ⟨i, b, rfl, hi, hlt, hge, hb1⟩
  have HB1 := Lib.hid (hal.trans (hb1.mono (by simp)))
  have BX1 := BX.below hb1 (by simp)
  have hs1 := hb1.size
  simp at hs1
  have HAP := Lib.hid (asc_put l s hs.1 i hi HN.out (fun j hj h => hlt j hj h) (fun j hj h => hge j hj h))
  clear hb1 hlt hge HSE BX
  go_wp2_with fail
  have HJO := Lib.hid (fun v w (h : CRow 2 spc w v (put1 l i s)) => joined_any v (put1 l i s) w h (by rw [put1_len l i s hi]; omega) (put1_small l i s HSM.out hs2))
  have HPL := Lib.hid (put1_len l i s hi)
  refine wp_region_pf [([0, 2, 3], [(1, 4)], [5, 6]), ([7], [], [])] (fun w' => Below w1.heap.size w1 w') (by kernel_rfl) (by kernel_rfl) (fun _ _ h1 h2 => bstep h1 h2) (by repeat' (first | exact Below.refl _ _ | apply below_drewN)) ?_
  intro ι F hne hF W0 hW0 hI0
  have c0 : ∀ i, (F i).cell? ⟨w.heap.size, 0, none⟩ = some (.int .i64 (s.lo : Int)) := fun i => (BX1.below (hF i) BX1.lt).cell 0
  have c1 : ∀ i, (F i).cell? ⟨w.heap.size, 1, none⟩ = some (.int .i64 (s.hi : Int)) := fun i => (BX1.below (hF i) BX1.lt).cell 1
  refine wpPf_cons ?_
  try simp only [pickOps, List.getElem?_cons_succ, List.getElem?_cons_zero]
  repeat (refine wpB_step (fun K hK => ?_); go_simp; first | (refine hK _ ?_; clear hK K) | (apply Exists.intro; refine ⟨fun _ => ?_, hK _ ?_⟩; (fail); clear hK K))
  refine wpB_nil ?_
  intro w3 hw3 hI3
  have HI3 := Lib.hid hI3
  clear c0 c1 hw3 hI3 hF
  refine wpFk_cons ?_ ?_
  · try simp only [pickOps, List.getElem?_cons_succ, List.getElem?_cons_zero]
    refine wpRB_step (fun K hK => ?_)
    go_simp
    refine (HCL.out w3 (bstep HB1.out HI3.out)).mono ?_
    rintro e w4 ⟨v4, rfl, ho4, hb4⟩
    have HI4 := Lib.hid (bstep HI3.out hb4)
    refine ⟨_, rfl, hK _ _ ⟨HI4.out, ?_⟩⟩
    clear hK K
    intro w5 hw5 hI5
    have HO5 := Lib.hid (own_below ho4 hw5)
    have hs5 := hI5.size
    have h34 := HI3.out.size
    clear ho4 hb4 hw5
    refine wpRB_step (fun K hK => ?_)
    go_simp
    refine hK _ _ ⟨hI5.alloc hI5.size _, ?_⟩
    clear hK K
    intro w6 hw6 hI6
    have VB := (Blk.new w5 73 #[.int .i64 (s.lo : Int), .int .i64 (s.hi : Int)]).below hw6 (by simp)
    have hne9 := own_lt_ne9 HO5.out (Nat.le_refl _)
    have HO6 := Lib.hid (own_mono (base' := w1.heap.size) (own_below (HO5.out.alloc _) hw6) h34)
    clear hw6 hI5 HO5
    refine wpRB_nil ?_
    refine wpFk_nil ?_
    try simp only [pickOps, List.getElem?_cons_succ, List.getElem?_cons_zero]
    refine wpRB_step (fun K hK => ?_)
    go_simp
    refine (insert_any w1.heap.size v4 l i s w5.heap.size w6 HO6.out VB hne9 hi (by omega) hI6.size).mono ?_
    rintro e w7 ⟨v7, rfl, ho7, hbb7, hs7⟩
    have HI7 := Lib.hid (hbb7 _ hI6)
    refine ⟨_, rfl, hK _ _ ⟨HI7.out, ?_⟩⟩
    clear hK K hbb7
    intro w8 hw8 hI8
    have HO8 := Lib.hid (own_below ho7 hw8)
    have HI8 := Lib.hid hI8
    clear hw8 hI8 ho7
    refine wpRB_step (fun K hK => ?_)
    go_simp
    refine (HJO.out v7 w8 (CRow.of_own spc_len (by rw [HPL.out]; exact HO8.out))).mono ?_
    rintro e w9 ⟨v9, rfl, ho9, hb9⟩
    have HI9 := Lib.hid (bstep HI8.out hb9)
    refine ⟨_, rfl, hK _ _ ⟨HI9.out, ?_⟩⟩
    clear hK K
    intro w10 hw10 hI10
    have HO10 := Lib.hid (own_below ho9 hw10)
    have HI10 := Lib.hid hI10
    have hs8 := HI8.out.size
    have hsz1 := HB1.out.size
    obtain ⟨A9, c9, rfl, hA91, hA92⟩ := own_slice ho9
    clear hw10 hI10 ho9 hb9
    refine wpRB_nil ?_
    refine wpPf_cons ?_
    try simp only [pickOps, List.getElem?_cons_succ, List.getElem?_cons_zero]
    repeat (refine wpB_step (fun K hK => ?_); go_simp; first | (refine hK _ ?_; clear hK K) | (apply Exists.intro; refine ⟨fun _ => ?_, hK _ ?_⟩; (fail); clear hK K))
    refine wpB_nil ?_
    intro w11 hw11 hI11
    have HO11 := Lib.hid (own_mono (base' := w.heap.size) (own_below HO10.out hw11) (by omega))
    have HI11 := Lib.hid (bstep HB1.out hI11)
    clear hw11 hI11
    refine wpFk_nil ?_
    refine wpRB_nil ?_
    refine wpPf_nil ?_
    go_wp2_with fail
    go_ret
    obtain ⟨j1, j2⟩ := joined_ok (put1 l i s) HAP.out.1
    refine ⟨_, joined (put1 l i s), rfl, HO11.out, ⟨j1, fun k => ?_, ?_⟩, HI11.out⟩
    · rw [j2]; exact HAP.out.2 k
    · have := joined_len (put1 l i s); rw [HPL.out] at this; exact this
  · try simp only [pickOps, List.getElem?_cons_succ, List.getElem?_cons_zero]
    refine wpRB_step (fun K hK => ?_)
    go_simp
    refine hK _ _ ⟨HI3.out.alloc HI3.out.size _, ?_⟩
    clear hK K
    intro w5 hw5 hI5
    have VB5 := (Blk.new w3 73 #[.int .i64 (s.lo : Int), .int .i64 (s.hi : Int)]).below hw5 (by simp)
    have hs35 := hw5.size
    simp at hs35
    refine wpRB_step (fun K hK => ?_)
    go_simp
    refine (HCL.out w5 (bstep HB1.out hI5)).mono ?_
    rintro e w4 ⟨v4, rfl, ho4, hb4⟩
    have HI4 := Lib.hid (bstep hI5 hb4)
    refine ⟨_, rfl, hK _ _ ⟨HI4.out, ?_⟩⟩
    clear hK K
    intro w6 hw6 hI6
    have VB := (VB5.below hb4 VB5.lt).below hw6 (Nat.lt_of_lt_of_le VB5.lt hb4.size)
    have hne9 := own_hi_ne ho4 (show w3.heap.size < w5.heap.size by omega)
    have HO6 := Lib.hid (own_mono (base' := w1.heap.size) (own_below ho4 hw6) hI5.size)
    clear hw6 hI5 ho4 hb4
    refine wpRB_nil ?_
    refine wpFk_nil ?_
    try simp only [pickOps, List.getElem?_cons_succ, List.getElem?_cons_zero]
    refine wpRB_step (fun K hK => ?_)
    go_simp
    refine (insert_any w1.heap.size v4 l i s w3.heap.size w6 HO6.out VB hne9 hi (by omega) hI6.size).mono ?_
    rintro e w7 ⟨v7, rfl, ho7, hbb7, hs7⟩
    have HI7 := Lib.hid (hbb7 _ hI6)
    refine ⟨_, rfl, hK _ _ ⟨HI7.out, ?_⟩⟩
    clear hK K hbb7
    intro w8 hw8 hI8
    have HO8 := Lib.hid (own_below ho7 hw8)
    have HI8 := Lib.hid hI8
    clear hw8 hI8 ho7
    refine wpRB_step (fun K hK => ?_)
    go_simp
    refine (HJO.out v7 w8 (CRow.of_own spc_len (by rw [HPL.out]; exact HO8.out))).mono ?_
    rintro e w9 ⟨v9, rfl, ho9, hb9⟩
    have HI9 := Lib.hid (bstep HI8.out hb9)
    refine ⟨_, rfl, hK _ _ ⟨HI9.out, ?_⟩⟩
    clear hK K
    intro w10 hw10 hI10
    have HO10 := Lib.hid (own_below ho9 hw10)
    have HI10 := Lib.hid hI10
    have hs8 := HI8.out.size
    have hsz1 := HB1.out.size
    obtain ⟨A9, c9, rfl, hA91, hA92⟩ := own_slice ho9
    clear hw10 hI10 ho9 hb9
    refine wpRB_nil ?_
    refine wpPf_cons ?_
    try simp only [pickOps, List.getElem?_cons_succ, List.getElem?_cons_zero]
    repeat (refine wpB_step (fun K hK => ?_); go_simp; first | (refine hK _ ?_; clear hK K) | (apply Exists.intro; refine ⟨fun _ => ?_, hK _ ?_⟩; (fail); clear hK K))
    refine wpB_nil ?_
    intro w11 hw11 hI11
    have HO11 := Lib.hid (own_mono (base' := w.heap.size) (own_below HO10.out hw11) (by omega))
    have HI11 := Lib.hid (bstep HB1.out hI11)
    clear hw11 hI11
    refine wpFk_nil ?_
    refine wpRB_nil ?_
    refine wpPf_nil ?_
    go_wp2_with fail
    go_ret
    obtain ⟨j1, j2⟩ := joined_ok (put1 l i s) HAP.out.1
    refine ⟨_, joined (put1 l i s), rfl, HO11.out, ⟨j1, fun k => ?_, ?_⟩, HI11.out⟩
    · rw [j2]; exact HAP.out.2 k
    · have := joined_len (put1 l i s); rw [HPL.out] at this; exact this
end Go.Proofs.Ythemlhkdgaeogaa
