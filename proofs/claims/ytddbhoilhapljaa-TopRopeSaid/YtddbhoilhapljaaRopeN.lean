/-
  The walks of rope.leaf, node and Len: a rope that is made, and how long one is.
-/
import Derived.Test.YtddbhoilhapljaaRopeT
namespace Go.Proofs.Ytddbhoilhapljaa
open Go.RowKit
set_option linter.unusedVariables false

def MadeT (t : T) (w : World) (e : Ending) (w' : World) : Prop := ∃ g, e = .returned (.pointer (some ⟨g, 0, none⟩)) ∧ RT w' g t ∧ Below w.heap.size w w'
set_option maxRecDepth 100000 in
set_option maxHeartbeats 1000000 in
theorem leaf_any (s : ByteArray) (w : World) (hs : s.size ≤ 600) :
    Calls Try.prog 116 #[.string s] w (MadeT (.leaf s) w) := by
  have hl : s.data.toList.length = s.size := by simp
  have HP := Lib.hid (fun W => posOf_any s W (by omega))
  have HH := Lib.hid (fun W => polyOf_any s W (by unfold maxLen; omega))
  unfold posv at HP
  go_enter Try.func116, Try.ntmps116
  go_wp2_with fail
  refine (HP.out _).mono ?_
  rintro e w1 ⟨rfl, hb1⟩
  go_wp2_with fail
  refine (HH.out _).mono ?_
  rintro e w2 ⟨rfl, hb2⟩
  have HB := Lib.hid (bstep hb1 hb2)
  clear hb1 hb2
  go_wp2_with fail
  go_ret
  exact ⟨w2.heap.size, rfl, Blk.new w2 _ _, HB.out.alloc HB.out.size _⟩
set_option maxRecDepth 100000 in
theorem ropeLen_any (v : Value) (o : Option T) (w : World) (h : RO w v o) :
    Calls Try.prog 86 #[v] w fun e w' => e = .returned (.int .i64 ((otx o).length : Int)) ∧ w = w' := by
  cases o with
  | none =>
    have h' : v = .pointer none := h
    subst h'
    go_enter Try.func86, Try.ntmps86
    go_wp2
    go_ret
    exact ⟨rfl, rfl⟩
  | some t =>
    obtain ⟨g, rfl, hr⟩ := h
    obtain ⟨s, p, hb⟩ := hr.blk
    have c3 : w.cell? ⟨g, 3, none⟩ = some (.int .i64 (t.tx.length : Int)) := by rw [hb.cell]; rfl
    have HO : Hid ((otx (some t)).length = t.tx.length) := Lib.hid rfl
    clear hb hr
    go_enter Try.func86, Try.ntmps86
    go_wp2
    go_ret
    exact ⟨ret_int (by rw [HO.out]), rfl⟩
theorem node_max (a b : T) (h3 : a.dp ≤ 1000) (h4 : b.dp ≤ 1000) : IntKind.i64.wrap (max (a.dp : Int) (b.dp : Int) + 1) = ((T.node a b).dp : Int) := by
  rw [IntWalk.i64_in _ (by omega)]
  simp only [T.dp]; omega
theorem RT.blks {w : World} {ga gb : Nat} {a b : T} (ha : RT w ga a) (hb : RT w gb b) : ∃ sa pa sb pb, Blk w ga 142 (rcells sa pa a.dp a.tx) ∧ Blk w gb 142 (rcells sb pb b.dp b.tx) := by
  obtain ⟨sa, pa, h1⟩ := ha.blk
  obtain ⟨sb, pb, h2⟩ := hb.blk
  exact ⟨sa, pa, sb, pb, h1, h2⟩
set_option maxRecDepth 100000 in
set_option maxHeartbeats 4000000 in
theorem node_any (ga gb : Nat) (a b : T) (w : World) (ha : RT w ga a) (hb : RT w gb b) (h1 : a.tx.length ≤ 600) (h2 : b.tx.length ≤ 600) (h3 : a.dp ≤ 1000) (h4 : b.dp ≤ 1000) :
    Calls Try.prog 117 #[.pointer (some ⟨ga, 0, none⟩), .pointer (some ⟨gb, 0, none⟩)] w (MadeT (.node a b) w) := by
  obtain ⟨sa, pa, sb, pb, ba, bb⟩ := RT.blks ha hb
  have HRA := Lib.hid ha
  have HRB := Lib.hid hb
  have HMX := Lib.hid (node_max a b h3 h4)
  have HPJ := Lib.hid (fun W => posJoin_any a.tx b.tx W (by omega) (by omega))
  have HHJ := Lib.hid (fun W => Join_of a.tx b.tx W)
  have HBA := Lib.hid ba
  have HBB := Lib.hid bb
  unfold posv at HPJ
  clear ha hb
  go_enter Try.func117, Try.ntmps117
  go_wp2_with fail
  refine wp_region_ph [([0, 1, 2, 4, 5, 6, 7, 8, 9, 10, 11, 12, 13], [3]), ([14], [15]), ([16], [])] (fun w' => Blk w' ga 142 (rcells sa pa a.dp a.tx) ∧ Blk w' gb 142 (rcells sb pb b.dp b.tx)) (by kernel_rfl) (by kernel_rfl) (fun _ _ h1 h2 => ⟨h1.1.below h2 h1.1.lt, h1.2.below h2 h1.2.lt⟩) ⟨ba, bb⟩ ?_
  intro ι F hne hF W0 hW0 hI0
  have t1F : ∀ i, (F i).cell? ⟨ga, 2, none⟩ = some (.int .i64 (a.dp : Int)) := fun i => by rw [(hF i).1.cell]; rfl
  have t2F : ∀ i, (F i).cell? ⟨gb, 2, none⟩ = some (.int .i64 (b.dp : Int)) := fun i => by rw [(hF i).2.cell]; rfl
  clear ba bb
  (refine wpPh_cons ?_; simp only [pickOps, List.getElem?_cons_succ, List.getElem?_cons_zero])
  repeat (refine wpB_step (fun K hK => ?_); go_simp; first | (refine hK _ ?_; clear hK K) | (apply Exists.intro; refine ⟨fun _ => ?_, hK _ ?_⟩; (fail); clear hK K))
  refine wpB_nil ?_
  intro w2 hw2 hI2
  refine wpRB_step (fun K hK => ?_)
  go_simp
  refine hK _ _ ⟨⟨hI2.1.alloc _, hI2.2.alloc _⟩, ?_⟩
  clear hK K
  have hA3 := Blk.new w2 171 #[.pointer (some ⟨ga, 0, none⟩), .pointer (some ⟨gb, 0, none⟩)]
  have hb3 : Below w.heap.size w (w2.alloc (.cells #[.pointer (some ⟨ga, 0, none⟩), .pointer (some ⟨gb, 0, none⟩)] 171)) := (bstep hW0 hw2).alloc (bstep hW0 hw2).size _
  intro w4 hw4 hI4
  have hA4 := hA3.below hw4 hA3.lt
  have hb4 := bstep hb3 hw4
  clear hA3 hb3 hw4 hW0 hw2 hI0 hI2
  generalize w2.heap.size = q at *
  refine wpRB_nil ?_
  (refine wpPh_cons ?_; simp only [pickOps, List.getElem?_cons_succ, List.getElem?_cons_zero])
  repeat (refine wpB_step (fun K hK => ?_); go_simp; first | (refine hK _ ?_; clear hK K) | (apply Exists.intro; refine ⟨fun _ => ?_, hK _ ?_⟩; (fail); clear hK K))
  refine wpB_nil ?_
  intro w5 hw5 hI5
  have hA5 := hA4.below hw5 hA4.lt
  have hb5 := bstep hb4 hw5
  clear hA4 hb4 hw5 hI4
  refine wpRB_step (fun K hK => ?_)
  go_simp
  rw [HMX.out]
  refine hK _ _ ⟨⟨hI5.1.alloc _, hI5.2.alloc _⟩, ?_⟩
  clear hK K
  have hN6 := Blk.new w5 142 #[.string ⟨#[]⟩, .pointer (some ⟨q, 0, none⟩), .int .i64 ((T.node a b).dp : Int), .int .i64 0, .int .i64 0, .int .i64 0, .int .i64 0, .int .i64 0]
  have hA6 := hA5.alloc (.cells #[.string ⟨#[]⟩, .pointer (some ⟨q, 0, none⟩), .int .i64 ((T.node a b).dp : Int), .int .i64 0, .int .i64 0, .int .i64 0, .int .i64 0, .int .i64 0] 142)
  have hb6 := hb5.alloc hb5.size (.cells #[.string ⟨#[]⟩, .pointer (some ⟨q, 0, none⟩), .int .i64 ((T.node a b).dp : Int), .int .i64 0, .int .i64 0, .int .i64 0, .int .i64 0, .int .i64 0] 142)
  have hwn : w.heap.size ≤ w5.heap.size := hb5.size
  have hgan : ga ≠ w5.heap.size := by have := HBA.out.lt; omega
  have hgbn : gb ≠ w5.heap.size := by have := HBB.out.lt; omega
  have hqn : q ≠ w5.heap.size := by have := hA5.lt; omega
  clear hA5 hb5 hI5
  generalize w5.alloc (.cells #[.string ⟨#[]⟩, .pointer (some ⟨q, 0, none⟩), .int .i64 ((T.node a b).dp : Int), .int .i64 0, .int .i64 0, .int .i64 0, .int .i64 0, .int .i64 0] 142) = w6 at *
  generalize w5.heap.size = n at *
  intro w7 hw7 hI7
  have hN7 := hN6.below hw7 hN6.lt
  have hA7 := hA6.below hw7 hA6.lt
  have hb7 := bstep hb6 hw7
  clear hN6 hA6 hb6 hw7
  refine wpRB_nil ?_
  (refine wpPh_cons ?_; simp only [pickOps, List.getElem?_cons_succ, List.getElem?_cons_zero])
  repeat (refine wpB_step (fun K hK => ?_); go_simp; first | (refine hK _ ?_; clear hK K) | (apply Exists.intro; refine ⟨fun _ => ?_, hK _ ?_⟩; (fail); clear hK K))
  refine wpB_nil ?_
  intro w8 hw8 hI8
  have hN8 := hN7.below hw8 hN7.lt
  have hA8 := hA7.below hw8 hA7.lt
  have hb8 := bstep hb7 hw8
  clear hN7 hA7 hb7 hw8 hI7
  refine wpRB_nil ?_
  refine wpPh_nil ?_
  clear t1F t2F hF hne F
  go_wp2_with fail
  refine wp_region_ph [([0, 1, 2, 3, 4, 5, 6, 7, 8, 9, 10, 11, 12, 13, 14], [15])] (fun w' => Blk w' ga 142 (rcells sa pa a.dp a.tx) ∧ Blk w' gb 142 (rcells sb pb b.dp b.tx)) (by kernel_rfl) (by kernel_rfl) (fun _ _ h1 h2 => ⟨h1.1.below h2 h1.1.lt, h1.2.below h2 h1.2.lt⟩) hI8 ?_
  intro ι F hne hF W0 hW0 hI0
  have t1F : ∀ i, (F i).cell? ⟨ga, 3, none⟩ = some (.int .i64 (a.tx.length : Int)) := fun i => by rw [(hF i).1.cell]; rfl
  have t2F : ∀ i, (F i).cell? ⟨ga, 4, none⟩ = some (.int .i64 (lnsL a.tx : Int)) := fun i => by rw [(hF i).1.cell]; rfl
  have t3F : ∀ i, (F i).cell? ⟨ga, 5, none⟩ = some (.int .i64 (colL a.tx : Int)) := fun i => by rw [(hF i).1.cell]; rfl
  have u1F : ∀ i, (F i).cell? ⟨gb, 3, none⟩ = some (.int .i64 (b.tx.length : Int)) := fun i => by rw [(hF i).2.cell]; rfl
  have u2F : ∀ i, (F i).cell? ⟨gb, 4, none⟩ = some (.int .i64 (lnsL b.tx : Int)) := fun i => by rw [(hF i).2.cell]; rfl
  have u3F : ∀ i, (F i).cell? ⟨gb, 5, none⟩ = some (.int .i64 (colL b.tx : Int)) := fun i => by rw [(hF i).2.cell]; rfl
  have hN9 := hN8.below hW0 hN8.lt
  have hA9 := hA8.below hW0 hA8.lt
  have hb9 := bstep hb8 hW0
  clear hN8 hA8 hb8 hI8 hW0 hI0
  (refine wpPh_cons ?_; simp only [pickOps, List.getElem?_cons_succ, List.getElem?_cons_zero])
  repeat (refine wpB_step (fun K hK => ?_); go_simp; first | (refine hK _ ?_; clear hK K) | (apply Exists.intro; refine ⟨fun _ => ?_, hK _ ?_⟩; (first | ((with_reducible refine (HPJ.out _).mono ?_); rintro e w1 ⟨rfl, hb⟩; exact ⟨rfl, hb⟩)); clear hK K))
  refine wpB_nil ?_
  intro w10 hw10 hI10
  have hN10 := hN9.below hw10 hN9.lt
  have hA10 := hA9.below hw10 hA9.lt
  have hb10 := bstep hb9 hw10
  clear hN9 hA9 hb9 hw10 t1F t2F t3F u1F u2F u3F
  have n3 : w10.cell? ⟨n, 3, none⟩ = some (.int .i64 0) := by rw [hN10.cell]; rfl
  have n4 : w10.cell? ⟨n, 4, none⟩ = some (.int .i64 0) := by rw [hN10.cell]; rfl
  have n5 : w10.cell? ⟨n, 5, none⟩ = some (.int .i64 0) := by rw [hN10.cell]; rfl
  have f3 := hN10.frozen 3
  have f4 := hN10.frozen 4
  have f5 := hN10.frozen 5
  refine wpRB_step (fun K hK => ?_)
  go_simp
  refine hK _ _ ⟨⟨((hI10.1.far (p := ⟨n, 3, none⟩) hgan _).far (p := ⟨n, 4, none⟩) hgan _).far (p := ⟨n, 5, none⟩) hgan _, ((hI10.2.far (p := ⟨n, 3, none⟩) hgbn _).far (p := ⟨n, 4, none⟩) hgbn _).far (p := ⟨n, 5, none⟩) hgbn _⟩, ?_⟩
  clear hK K
  have hN11 := ((hN10.set_ 3 (.int .i64 ((a.tx.length : Int) + (b.tx.length : Int)))).set_ 4 (.int .i64 (lnsL (a.tx ++ b.tx) : Int))).set_ 5 (.int .i64 (colL (a.tx ++ b.tx) : Int))
  have hA11 := ((hA10.far (p := ⟨n, 3, none⟩) hqn (.int .i64 ((a.tx.length : Int) + (b.tx.length : Int)))).far (p := ⟨n, 4, none⟩) hqn (.int .i64 (lnsL (a.tx ++ b.tx) : Int))).far (p := ⟨n, 5, none⟩) hqn (.int .i64 (colL (a.tx ++ b.tx) : Int))
  have hb11 := ((hb10.setCell (p := ⟨n, 3, none⟩) hwn (.int .i64 ((a.tx.length : Int) + (b.tx.length : Int)))).setCell (p := ⟨n, 4, none⟩) hwn (.int .i64 (lnsL (a.tx ++ b.tx) : Int))).setCell (p := ⟨n, 5, none⟩) hwn (.int .i64 (colL (a.tx ++ b.tx) : Int))
  clear hN10 hA10 hb10 hI10 n3 n4 n5 f3 f4 f5
  intro w12 hw12 hI12
  have hN12 := hN11.below hw12 hN11.lt
  have hA12 := hA11.below hw12 hA11.lt
  have hb12 := bstep hb11 hw12
  clear hN11 hA11 hb11 hw12
  refine wpRB_nil ?_
  refine wpPh_nil ?_
  clear hF hne F
  go_wp2_with fail
  refine wp_region_ph [([0, 1, 2, 3, 4, 5, 6, 7, 8, 9, 10, 11, 12, 13, 14], [15])] (fun w' => Blk w' ga 142 (rcells sa pa a.dp a.tx) ∧ Blk w' gb 142 (rcells sb pb b.dp b.tx)) (by kernel_rfl) (by kernel_rfl) (fun _ _ h1 h2 => ⟨h1.1.below h2 h1.1.lt, h1.2.below h2 h1.2.lt⟩) hI12 ?_
  intro ι F hne hF W0 hW0 hI0
  have t1F : ∀ i, (F i).cell? ⟨ga, 6, none⟩ = some (.int .i64 (hv a.tx)) := fun i => by rw [(hF i).1.cell]; rfl
  have t2F : ∀ i, (F i).cell? ⟨ga, 7, none⟩ = some (.int .i64 (hs a.tx)) := fun i => by rw [(hF i).1.cell]; rfl
  have u1F : ∀ i, (F i).cell? ⟨gb, 6, none⟩ = some (.int .i64 (hv b.tx)) := fun i => by rw [(hF i).2.cell]; rfl
  have u2F : ∀ i, (F i).cell? ⟨gb, 7, none⟩ = some (.int .i64 (hs b.tx)) := fun i => by rw [(hF i).2.cell]; rfl
  have hN13 := hN12.below hW0 hN12.lt
  have hA13 := hA12.below hW0 hA12.lt
  have hb13 := bstep hb12 hW0
  clear hN12 hA12 hb12 hI12 hW0 hI0
  (refine wpPh_cons ?_; simp only [pickOps, List.getElem?_cons_succ, List.getElem?_cons_zero])
  repeat (refine wpB_step (fun K hK => ?_); go_simp; first | (refine hK _ ?_; clear hK K) | (apply Exists.intro; refine ⟨fun _ => ?_, hK _ ?_⟩; (first | ((with_reducible refine (HHJ.out _).mono ?_); rintro e w1 ⟨rfl, hb⟩; exact ⟨rfl, hb⟩)); clear hK K))
  refine wpB_nil ?_
  intro w14 hw14 hI14
  have hN14 := hN13.below hw14 hN13.lt
  have hA14 := hA13.below hw14 hA13.lt
  have hb14 := bstep hb13 hw14
  clear hN13 hA13 hb13 hw14 t1F t2F u1F u2F
  have n6 : w14.cell? ⟨n, 6, none⟩ = some (.int .i64 0) := by rw [hN14.cell]; rfl
  have n7 : w14.cell? ⟨n, 7, none⟩ = some (.int .i64 0) := by rw [hN14.cell]; rfl
  have f6 := hN14.frozen 6
  have f7 := hN14.frozen 7
  refine wpRB_step (fun K hK => ?_)
  go_simp
  refine hK _ _ ⟨⟨(hI14.1.far (p := ⟨n, 6, none⟩) hgan _).far (p := ⟨n, 7, none⟩) hgan _, (hI14.2.far (p := ⟨n, 6, none⟩) hgbn _).far (p := ⟨n, 7, none⟩) hgbn _⟩, ?_⟩
  clear hK K
  have hN15 := (hN14.set_ 6 (.int .i64 (hv (a.tx ++ b.tx)))).set_ 7 (.int .i64 (hs (a.tx ++ b.tx)))
  have hA15 := (hA14.far (p := ⟨n, 6, none⟩) hqn (.int .i64 (hv (a.tx ++ b.tx)))).far (p := ⟨n, 7, none⟩) hqn (.int .i64 (hs (a.tx ++ b.tx)))
  have hb15 := (hb14.setCell (p := ⟨n, 6, none⟩) hwn (.int .i64 (hv (a.tx ++ b.tx)))).setCell (p := ⟨n, 7, none⟩) hwn (.int .i64 (hs (a.tx ++ b.tx)))
  clear hN14 hA14 hb14 hI14 n6 n7 f6 f7
  intro w16 hw16 hI16
  have HN := Lib.hid (hN15.below hw16 hN15.lt)
  have HA := Lib.hid (hA15.below hw16 hA15.lt)
  have HB := Lib.hid (bstep hb15 hw16)
  clear hN15 hA15 hb15 hw16
  refine wpRB_nil ?_
  refine wpPh_nil ?_
  clear hF hne F hI16
  go_wp2_with fail
  go_ret
  refine ⟨n, rfl, ⟨q, ga, gb, ?_, HA.out, HRA.out.below HB.out, HRB.out.below HB.out⟩, HB.out⟩
  have e : ((a.tx ++ b.tx).length : Int) = (a.tx.length : Int) + (b.tx.length : Int) := by simp
  unfold rcells
  rw [e]
  exact HN.out
end Go.Proofs.Ytddbhoilhapljaa
