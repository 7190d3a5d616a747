/-
  The walk of slices.Insert of one span.
-/
import Derived.Test.YthemlhkdgaeogaaSpan
import Derived.Test.YthemlhkdgaeogaaCopyK
import Derived.Lib.AppendZerosOnto
import Derived.Lib.Overlaps
import Derived.Laws.NewBlocks
import Derived.StillTailTactics
namespace Go.Proofs.Ythemlhkdgaeogaa
open Go.RowKit Go.Shelf
set_option linter.unusedVariables false
set_option linter.unusedSimpArgs false

def put1 (l : List Sp) (i : Nat) (x : Sp) : List Sp := l.take i ++ x :: l.drop i
def InsPost (base : Nat) (l : List Sp) (i : Nat) (x : Sp) (w : World) (e : Ending) (w' : World) : Prop :=
  ∃ v', e = .returned v' ∧ w'.ownsRow base 73 2 v' (l.length + 1) (cellsOf spc (put1 l i x)) ∧ (∀ w0, Below base w0 w → Below base w0 w') ∧ w.heap.size ≤ w'.heap.size
theorem lit_reads {w : World} {vb : Nat} {t : TypeId} {x : Sp} (h : Blk w vb t #[.int .i64 (x.lo : Int), .int .i64 (x.hi : Int)]) : Reads w w.heap.size 2 (some ⟨vb, 0, none⟩) 1 (spc x) := by
  refine ⟨rfl, fun _ => ⟨_, rfl, h.lt, fun j u hu => ?_⟩⟩
  rw [add_head, h.cell]
  rcases j with _ | _ | j
  · exact hu
  · exact hu
  · simp [spc] at hu
set_option maxRecDepth 100000 in
set_option maxHeartbeats 4000000 in
theorem insert_end (base : Nat) (v : Value) (l : List Sp) (x : Sp) (vb : Nat) (w : World) (h : w.ownsRow base 73 2 v l.length (cellsOf spc l)) (hvb : Blk w vb 73 #[.int .i64 (x.lo : Int), .int .i64 (x.hi : Int)]) (hl : l.length ≤ 1000) (hbase : base ≤ w.heap.size) :
    Calls Try.prog 77 #[v, .int .i64 (l.length : Int), .slice (some ⟨vb, 0, none⟩) 1 1] w (InsPost base l l.length x w) := by
  obtain ⟨i0, hi, hz0, hz1, hz2⟩ := info_parts span_info
  have hN : cellsOf spc (put1 l l.length x) = cellsOf spc l ++ spc x := by
    unfold put1; rw [List.take_length, List.drop_length, cellsOf_snoc]
  unfold InsPost
  rw [hN]
  have HR := Lib.hid (lit_reads hvb)
  obtain ⟨A, c, rfl, hc1, hc2⟩ := own_slice h
  have HH := Lib.hid h
  have HLT := Lib.hid (h.lt)
  unfold maxLen at hc2
  clear h hN hvb
  go_enter Try.func77, Try.ntmps77
  go_wp2_with (at_builtin; go_loud (refine wpList_append_any _ rfl (.tmp 23) (.tmp 24) _ rfl base 73 i0 _ 2 16 Try.underlying26 hi hz0 hz1 hz2 rfl (by decide) (.slice A l.length c) l.length _ rfl HH.out w.heap.size _ 1 1 _ rfl HR.out (spc_one x) (by unfold maxLen; omega) (by omega) hbase ?_; intro v' w' h2 h3 h4; have H2 := Lib.hid h2; have H3 := Lib.hid h3; clear h2 h3 h4))
  all_goals
    go_ret
    exact ⟨_, rfl, H2.out, fun w0 h0 => h0.grown H3.out hbase (fun g hg => (HLT.out g hg).1), H3.out.size⟩
theorem zeros_len (z : Array Value) (k : Nat) : (Builtin.zeroCells z k).toList.length = k * z.size := by simp [Builtin.zeroCells]
theorem splice_mid {α : Type} (A B Z : List α) (hz : A.length + B.length ≤ A.length + Z.length) : splice (A ++ Z) A.length B = A ++ B ++ Z.drop B.length := by
  unfold splice
  rw [List.take_left, List.drop_append, show (A.drop (A.length + B.length)) = [] from List.drop_eq_nil_of_le (by omega), Nat.add_sub_cancel_left, List.nil_append, List.append_assoc]
set_option maxRecDepth 100000 in
set_option maxHeartbeats 4000000 in
theorem insert_grow (base : Nat) (g c : Nat) (l : List Sp) (i : Nat) (x : Sp) (vb : Nat) (w : World) (h : w.ownsRow base 73 2 (.slice (some ⟨g, 0, none⟩) l.length c) l.length (cellsOf spc l)) (hvb : Blk w vb 73 #[.int .i64 (x.lo : Int), .int .i64 (x.hi : Int)]) (hi : i < l.length) (hc : c < l.length + 1) (hl : l.length ≤ 1000) (hbase : base ≤ w.heap.size) :
    Calls Try.prog 77 #[.slice (some ⟨g, 0, none⟩) l.length c, .int .i64 (i : Int), .slice (some ⟨vb, 0, none⟩) 1 1] w (InsPost base l i x w) := by
  obtain ⟨i0, hi0, hz0, hzs, hzb⟩ := info_parts span_info
  have hgl : g < w.heap.size := (h.lt g rfl).2
  have hvl := hvb.lt
  have hcl := cellsOf_len (cl := spc) spc_len l
  have hcells := h.cells (g := g) rfl
  obtain ⟨A9, c9, hv9, hc1, hc2⟩ := own_slice h
  injection hv9 with e1 _ e3
  subst e1
  subst e3
  unfold maxLen at hc2
  have hold : (Builtin.firstCells i0.size i (.slice (some ⟨g, 0, none⟩) i c)).run Try.prog w.drew = .ok ((cellsOf spc l).take (i * 2)).toArray w.drew := by
    rw [hzs]
    exact run_firstCells_some w.drew 2 i ⟨g, 0, none⟩ i c ((cellsOf spc l).take (i * 2)) (by rw [List.length_take]; omega) (fun j v hj => by
      rw [List.getElem?_take] at hj
      split at hj
      · exact hcells j v hj
      · cases hj)
  obtain ⟨k, hk⟩ : ∃ k, l.length + 1 - i = k := ⟨_, rfl⟩
  have hik : i + k = l.length + 1 := by omega
  have hki : (l.length : Int) + 1 - (i : Int) = (k : Int) := by omega
  have hrz : ∀ ty, (Builtin.append_ #[26, 3] ty #[.slice (some ⟨g, 0, none⟩) i c, .int .i64 (k : Int)]).run Try.prog w =
      .ok (.slice (some ⟨w.heap.size, 0, none⟩) (l.length + 1) (grownCap w (l.length + 1) c 73)) (w.drew.alloc (.cells (((cellsOf spc l).take (i * 2)).toArray ++ Builtin.zeroCells (Value.agg #[.int .i64 0, .int .i64 0]).cells k ++ Builtin.zeroCells (Value.agg #[.int .i64 0, .int .i64 0]).cells (grownCap w (l.length + 1) c 73 - (l.length + 1))) 73)) := fun ty => by
    have h9 := Lib.run_append_grow_zeros w 26 3 ty 73 i0 _ .i64 .i64 Try.underlying26 Try.underlying3 hi0 hz0 (some ⟨g, 0, none⟩) i c ((cellsOf spc l).take (i * 2)) hold k (by omega) (by omega) (by omega) (by omega) (by rw [hzb]; omega) (by rw [hzb, hik]; exact growslice_fits hc (by omega))
    rw [hik] at h9
    exact h9
  have hGn : l.length + 1 ≤ grownCap w (l.length + 1) c 73 := grownCap_ge w _ _ _
  have hGm := grownCap_le_maxLen w (l.length + 1) c 73 (by unfold maxLen; omega)
  generalize grownCap w (l.length + 1) c 73 = G at *
  obtain ⟨Z, hZ⟩ : ∃ Z : List Value, Z = (Builtin.zeroCells (Value.agg #[.int .i64 0, .int .i64 0]).cells k).toList ++ (Builtin.zeroCells (Value.agg #[.int .i64 0, .int .i64 0]).cells (G - (l.length + 1))).toList := ⟨_, rfl⟩
  have hZl : Z.length = (G - i) * 2 := by
    rw [hZ, List.length_append, zeros_len, zeros_len]
    show k * 2 + (G - (l.length + 1)) * 2 = _
    omega
  have hrow : ((cellsOf spc l).take (i * 2)).toArray ++ Builtin.zeroCells (Value.agg #[.int .i64 0, .int .i64 0]).cells k ++ Builtin.zeroCells (Value.agg #[.int .i64 0, .int .i64 0]).cells (G - (l.length + 1)) = ((cellsOf spc l).take (i * 2) ++ Z).toArray := by
    rw [hZ]; apply Array.ext'; simp
  rw [hrow] at hrz
  obtain ⟨HA, hHA⟩ : ∃ HA, HA = (cellsOf spc l).take (i * 2) := ⟨_, rfl⟩
  obtain ⟨TA, hTA⟩ : ∃ TA, TA = (cellsOf spc l).drop (i * 2) := ⟨_, rfl⟩
  have hHl : HA.length = i * 2 := by rw [hHA, List.length_take]; omega
  have hTl : TA.length = (l.length - i) * 2 := by rw [hTA, List.length_drop]; omega
  rw [← hHA] at hrz
  have hfin : cellsOf spc (put1 l i x) = HA ++ spc x ++ TA := by
    unfold put1
    rw [cellsOf_append, cellsOf_cons, cellsOf_take spc_len l i (by omega), cellsOf_drop spc_len l i (by omega), ← hHA, ← hTA, List.append_assoc]
  have hTc : ∀ j v, TA[j]? = some v → w.cell? ⟨g, i * 2 + j, none⟩ = some v := fun j v hj => by
    rw [hTA, List.getElem?_drop] at hj
    have := hcells _ v hj
    rwa [add_head] at this
  have hT1 : ∀ v ∈ TA, v.oneCell' = true := fun v hv => cellsOf_oneCell spc_one l v (by rw [hTA] at hv; exact List.mem_of_mem_drop hv)
  have hW1 : Blk (w.alloc (.cells (HA ++ Z).toArray 73)).drew w.heap.size 73 (HA ++ Z).toArray := (Blk.new w 73 (HA ++ Z).toArray).drew
  have hB1 := ((Below.refl w.heap.size w).alloc (Nat.le_refl _) (.cells (HA ++ Z).toArray 73)).drew
  have HF := Lib.hid hfin
  have HT := Lib.hid hTc
  have HT1 := Lib.hid hT1
  have HW1 := Lib.hid hW1
  have HB1 := Lib.hid hB1
  have HHl := Lib.hid hHl
  have HTl := Lib.hid hTl
  have HZl := Lib.hid hZl
  have HVB := Lib.hid hvb
  have HIK := Lib.hid hik
  unfold maxLen at hGm
  have hwr1 : (i : Int) ≤ (l.length : Int) := by omega
  have hgi : ¬ G = i := by omega
  have hgi1 : ¬ G = i + 1 := by omega
  have hci : ¬ c = i := by omega
  have hz2 : ¬ (i : Int) = (l.length : Int) := by omega
  have hz3 : (c : Int) < (l.length : Int) + 1 := by omega
  have hi1 : (i : Int) + 1 ≤ (l.length : Int) + 1 := by omega
  have hkn : (k : Int) ≤ 100000 := by omega
  rw [← hki] at hrz
  have HRZ := Lib.hid hrz
  clear hki
  clear hrz hZ hrow hHA hTA hcells hold h hvb hfin hTc hT1 hW1 hB1 hHl hTl hZl hcl hk hik
  go_enter Try.func77, Try.ntmps77
  go_wp2_with (first
    | (at_builtin; refine Lib.wpList_append_run _ rfl _ _ _ _ rfl _ _ rfl rfl _ _ (HRZ.out _) ?_)
    | (refine wpList_copy_spk rfl (.tmp 43) (.tmp 44) 26 26 rfl 73 2 Try.underlying26 (by rw [hi0]; simp [hzs]) w.heap.size (i * 2) (l.length + 1 - i) _ ⟨vb, 0, none⟩ 1 1 rfl rfl _ _ HW1.out (spc x) (by show 2 = min 1 (l.length + 1 - i) * 2; omega) (fun j v hj => ((lit_reads (HVB.out.below HB1.out hvl)).2 (by omega)).elim fun _ hh => by injection hh.1 with e; subst e; exact hh.2.2 j v hj) (by rw [List.length_append, HHl.out, HZl.out]; show i * 2 + 2 ≤ _; omega) (spc_one x) w.heap.size w HB1.out (Nat.le_refl _) ?_; intro w2 HG2 hB2 hs2; have HB2 := Lib.hid hB2; clear hB2))
  have hW2 : w.heap.size < w2.heap.size := by rw [hs2.1]; simp
  clear hs2
  have hw1 : IntKind.i64.wrap ((i : Int) + 1) = (i : Int) + 1 := IntWalk.i64_in _ (by omega)
  have htn : ((i : Int) + 1).toNat = i + 1 := by omega
  have hb1 : (0 : Int) ≤ (i : Int) + 1 := by omega
  refine wp_region_still_tail 8 (by kernel_rfl) (by kernel_rfl) ?_
  change wpStill _ _ w2.drew _ _ _
  simp only [List.take_succ_cons, List.take_zero, List.drop_succ_cons, List.drop_zero]
  iterate 8 still_step
  refine wpStill_nil ?_
  change wpList _ _ _ _ _ w2.drew
  refine wpList_copy_spk rfl (.tmp 50) (.tmp 53) 26 26 rfl 73 2 Try.underlying26 (by rw [hi0]; simp [hzs]) w.heap.size ((i + 1) * 2) (l.length + 1 - (i + 1)) (G - (i + 1)) ⟨g, i * 2, none⟩ (l.length - i) (c - i) (by simp [Act.eval, Act.put, hgi1]) (by simp [Act.eval, Act.put, hci]) _ _ (w := w2.drew) HG2.out TA (by rw [HTl.out]; show _ = min (l.length - i) (l.length + 1 - (i + 1)) * 2; congr 1; omega) (fun j v hj => by rw [add_plain]; exact (HB2.out.cell (p := ⟨g, i * 2 + j, none⟩) hgl).trans (HT.out j v hj)) (by unfold splice; simp only [List.length_append, List.length_take, List.length_drop, HHl.out, HZl.out, HTl.out]; simp only [spc, List.length_cons, List.length_nil]; omega) HT1.out w.heap.size w HB2.out.drew (Nat.le_refl _) ?_
  intro w3 HG3 hB3 hs3
  have HB3 := Lib.hid hB3
  clear hB3
  go_wp2_with fail
  go_ret
  have hg3 := HG3.out
  have hspx : (spc x).length = 2 := rfl
  have e1 : splice (HA ++ Z) (i * 2) (spc x) = HA ++ spc x ++ Z.drop 2 := by
    rw [← HHl.out, splice_mid _ _ _ (by rw [HZl.out, hspx]; omega), hspx]
  have e2 : (HA ++ spc x).length = (i + 1) * 2 := by rw [List.length_append, HHl.out, hspx]; omega
  rw [e1, ← e2, splice_mid _ _ _ (by rw [List.length_drop, HZl.out, HTl.out]; omega)] at hg3
  refine ⟨_, rfl, ?_, fun w0 h0 => h0.trans (HB3.out.mono hbase), HB3.out.size⟩
  rw [HF.out]
  refine own_of_heap hbase hg3 hGn (by unfold maxLen; omega) ?_ ?_ ?_
  · simp only [List.length_append, List.length_drop, HHl.out, hspx, HTl.out, HZl.out]; omega
  · rw [List.take_append_of_le_length (by simp only [List.length_append, HHl.out, hspx, HTl.out]; omega), List.take_of_length_le (by simp only [List.length_append, HHl.out, hspx, HTl.out]; omega)]
  · simp only [List.length_append, HHl.out, hspx, HTl.out]; omega
theorem splice_two {α : Type} (cur TA X : List α) (k : Nat) (hX : X.length = 2) (h : k + 2 + TA.length ≤ cur.length) :
    splice (splice cur (k + 2) TA) k X = cur.take k ++ X ++ TA ++ cur.drop (k + 2 + TA.length) := by
  unfold splice
  have e1 : (cur.take (k + 2)).length = k + 2 := by rw [List.length_take]; omega
  have e2 : (cur.take (k + 2) ++ (TA ++ cur.drop (k + 2 + TA.length))).take k = cur.take k := by
    rw [List.take_append_of_le_length (by omega), List.take_take, Nat.min_eq_left (by omega)]
  have e3 : (cur.take (k + 2) ++ (TA ++ cur.drop (k + 2 + TA.length))).drop (k + X.length) = TA ++ cur.drop (k + 2 + TA.length) := by
    rw [hX, List.drop_append, List.drop_of_length_le (by omega), e1, Nat.sub_self, List.drop_zero, List.nil_append]
  rw [e2, e3]; simp only [List.append_assoc]
theorem blk_shape {w : World} {g : Nat} {t : TypeId} {cs : Array Value} (h : w.heap[g]? = some (.cells cs t (0, 0))) : w.shape? g = some (t, cs.size) := by
  unfold World.shape?; rw [h]
set_option maxRecDepth 100000 in
set_option maxHeartbeats 4000000 in
theorem insert_shift (base : Nat) (g c : Nat) (l : List Sp) (i : Nat) (x : Sp) (vb : Nat) (w : World) (h : w.ownsRow base 73 2 (.slice (some ⟨g, 0, none⟩) l.length c) l.length (cellsOf spc l)) (hvb : Blk w vb 73 #[.int .i64 (x.lo : Int), .int .i64 (x.hi : Int)]) (hne : vb ≠ g) (hi : i < l.length) (hc : l.length + 1 ≤ c) (hl : l.length ≤ 1000) (hbase : base ≤ w.heap.size) :
    Calls Try.prog 77 #[.slice (some ⟨g, 0, none⟩) l.length c, .int .i64 (i : Int), .slice (some ⟨vb, 0, none⟩) 1 1] w (InsPost base l i x w) := by
  obtain ⟨i0, hi0, hz0, hzs, hzb⟩ := info_parts span_info
  have hsz : (Try.prog.info? 73).map (·.size) = some 2 := by rw [hi0]; simp [hzs]
  have hgl : g < w.heap.size := (h.lt g rfl).2
  have hvl := hvb.lt
  have hcl := cellsOf_len (cl := spc) spc_len l
  have hcells := h.cells (g := g) rfl
  obtain ⟨cur, hbg, hg, hnc, hcm, hcur, htk⟩ := own_heap h
  have hcm' := hcm
  unfold maxLen at hcm'
  obtain ⟨TA, hTA⟩ : ∃ TA, TA = (cellsOf spc l).drop (i * 2) := ⟨_, rfl⟩
  have hTl : TA.length = (l.length - i) * 2 := by rw [hTA, List.length_drop]; omega
  have hHA : cur.take (i * 2) = (cellsOf spc l).take (i * 2) := by
    rw [← htk, List.take_take, Nat.min_eq_left (by omega)]
  have hfin : cellsOf spc (put1 l i x) = cur.take (i * 2) ++ spc x ++ TA := by
    unfold put1
    rw [cellsOf_append, cellsOf_cons, cellsOf_take spc_len l i (by omega), cellsOf_drop spc_len l i (by omega), hHA, ← hTA, List.append_assoc]
  have hTc : ∀ j v, TA[j]? = some v → w.cell? ⟨g, i * 2 + j, none⟩ = some v := fun j v hj => by
    rw [hTA, List.getElem?_drop] at hj
    have := hcells _ v hj
    rwa [add_head] at this
  have hT1 : ∀ v ∈ TA, v.oneCell' = true := fun v hv => cellsOf_oneCell spc_one l v (by rw [hTA] at hv; exact List.mem_of_mem_drop hv)
  have hov : ∀ lb cb, (callFunc 86 #[.slice (some ⟨vb, 0, none⟩) 1 1, .slice (some ⟨g, (i + 1) * 2, none⟩) lb cb]).run Try.prog w = .ok (.value (.bool false)) w := fun lb cb => by
    rw [run_callFunc_extern Try.func86 (by kernel_rfl) (by kernel_rfl) (by kernel_rfl) (e := Extern.SlicesOverlaps.overlaps #[26, 26] #[4]) (by kernel_rfl),
      Lib.run_overlaps_apart w 26 4 73 Try.underlying26 2 Try.sizeOf73 ⟨vb, 0, none⟩ ⟨g, (i + 1) * 2, none⟩ 1 1 lb cb hne 73 73 2 cur.toArray.size (blk_shape hvb) (blk_shape hg) (by rw [List.size_toArray]; omega) (hvb.frozen 0) (hvb.frozen 2)]
    rfl
  have HF := Lib.hid hfin
  have HT := Lib.hid hTc
  have HT1 := Lib.hid hT1
  have HTl := Lib.hid hTl
  have HVB := Lib.hid hvb
  have HG := Lib.hid hg
  have HCL := Lib.hid hcur
  have hw1 : IntKind.i64.wrap ((i : Int) + 1) = (i : Int) + 1 := IntWalk.i64_in _ (by omega)
  have htn : ((i : Int) + 1).toNat = i + 1 := by omega
  have hb1 : (0 : Int) ≤ (i : Int) + 1 := by omega
  have hwr1 : (i : Int) ≤ (l.length : Int) := by omega
  have hwr2 : (i : Int) ≤ (l.length : Int) + 1 := by omega
  have hci : ¬ c = i := by omega
  have hci1 : ¬ c = i + 1 := by omega
  have hz2 : ¬ (i : Int) = (l.length : Int) := by omega
  have hz3 : ¬ (c : Int) < (l.length : Int) + 1 := by omega
  have hz4 : (l.length : Int) + 1 ≤ (c : Int) := by omega
  have hi1 : (i : Int) + 1 ≤ (l.length : Int) + 1 := by omega
  clear hHA hTA hcells h hvb hfin hTc hT1 hTl hcl hcur htk hg
  go_enter Try.func77, Try.ntmps77
  go_wp2_with (simp only [hov])
  clear hov
  have hB0 := (Below.refl base w).drew
  have HB0 := Lib.hid (fun w0 (h0 : Below base w0 w) => h0.drew)
  refine wp_region_still_tail 8 (by kernel_rfl) (by kernel_rfl) ?_
  change wpStill _ _ w.drew _ _ _
  simp only [List.take_succ_cons, List.take_zero, List.drop_succ_cons, List.drop_zero]
  iterate 8 still_step
  refine wpStill_nil ?_
  change wpList _ _ _ _ _ w.drew
  refine wpList_copy_spk rfl (.tmp 73) (.tmp 76) 26 26 rfl 73 2 Try.underlying26 hsz g (i * 2 + 2) (l.length + 1 - (i + 1)) (c - (i + 1)) ⟨g, i * 2, none⟩ (l.length + 1 - i) (c - i) (by simp [Act.eval, Act.put, hci1]) (by simp [Act.eval, Act.put, hci]) _ _ (w := w.drew) HG.out TA (by rw [HTl.out]; show _ = min (l.length + 1 - i) (l.length + 1 - (i + 1)) * 2; congr 1; omega) (fun j v hj => by rw [add_plain]; exact HT.out j v hj) (by rw [HTl.out, HCL.out]; omega) HT1.out base w (Below.refl base w).drew hbg ?_
  intro w3 HG3 hB3 hs3
  have HB3 := Lib.hid hB3
  have hw3 : w.heap.size ≤ w3.heap.size := by rw [hs3.1]; exact Nat.le_refl _
  have HVB3 : Hid (Blk w3 vb 73 #[.int .i64 (x.lo : Int), .int .i64 (x.hi : Int)]) := Lib.hid ((hs3.2 vb hne).trans HVB.out)
  clear hB3 hs3
  go_wp2_with (refine wpList_copy_spk rfl (.tmp 80) (.tmp 81) 26 26 rfl 73 2 Try.underlying26 hsz g (i * 2) (l.length + 1 - i) _ ⟨vb, 0, none⟩ 1 1 rfl rfl _ _ HG3.out (spc x) (by show 2 = min 1 (l.length + 1 - i) * 2; omega) (fun j v hj => ((lit_reads HVB3.out).2 (by omega)).elim fun _ hh => by injection hh.1 with e; subst e; exact hh.2.2 j v hj) (by unfold splice; simp only [List.length_append, List.length_take, List.length_drop, HTl.out, HCL.out]; simp only [spc, List.length_cons, List.length_nil]; omega) (spc_one x) base w HB3.out hbg ?_; intro w4 HG4 hB4 hs4; have HB4 := Lib.hid hB4; have HS4 := Lib.hid hs4; clear hB4 hs4)
  go_ret
  have hg4 := HG4.out
  rw [splice_two cur TA (spc x) (i * 2) rfl (by rw [HTl.out, HCL.out]; omega)] at hg4
  have hspx : (spc x).length = 2 := rfl
  have hHl : (cur.take (i * 2)).length = i * 2 := by rw [List.length_take, HCL.out]; omega
  refine ⟨_, rfl, ?_, fun w0 h0 => h0.trans HB4.out, by rw [HS4.out.1]; exact hw3⟩
  rw [HF.out]
  refine own_of_heap hbg hg4 hc hcm ?_ ?_ ?_
  · simp only [List.length_append, List.length_drop, hHl, hspx, HTl.out, HCL.out]; omega
  · rw [List.take_append_of_le_length (by simp only [List.length_append, hHl, hspx, HTl.out]; omega), List.take_of_length_le (by simp only [List.length_append, hHl, hspx, HTl.out]; omega)]
  · simp only [List.length_append, hHl, hspx, HTl.out]; omega
theorem insert_any (base : Nat) (v : Value) (l : List Sp) (i : Nat) (x : Sp) (vb : Nat) (w : World) (h : w.ownsRow base 73 2 v l.length (cellsOf spc l)) (hvb : Blk w vb 73 #[.int .i64 (x.lo : Int), .int .i64 (x.hi : Int)]) (hne : v.ownBlock ≠ some vb) (hi : i ≤ l.length) (hl : l.length ≤ 1000) (hbase : base ≤ w.heap.size) :
    Calls Try.prog 77 #[v, .int .i64 (i : Int), .slice (some ⟨vb, 0, none⟩) 1 1] w (InsPost base l i x w) := by
  rcases Nat.lt_or_ge i l.length with hlt | hge
  · obtain ⟨g, c, rfl, hg, hgl⟩ := h.form (by omega)
    rcases Nat.lt_or_ge c (l.length + 1) with hc | hc
    · exact insert_grow base g c l i x vb w h hvb hlt hc hl hbase
    · exact insert_shift base g c l i x vb w h hvb (fun e => hne (by rw [e]; rfl)) hlt hc hl hbase
  · obtain rfl : i = l.length := by omega
    exact insert_end base v l x vb w h hvb hl hbase
end Go.Proofs.Ythemlhkdgaeogaa
