/-
  The walks of the log's reader: take, number, text, deed.
-/
import Derived.Test.YtegobmlbldabbaaLogS
namespace Go.Proofs.Ytegobmlbldabbaa
open Go.RowKit
set_option linter.unusedVariables false

structure St where
  left : List UInt8
  bad : Bool
def tk (n : Nat) (st : St) : List UInt8 × St := if st.bad = true ∨ st.left.length < n then (List.replicate (min n 2) 0, ⟨st.left, true⟩) else (st.left.take n, ⟨st.left.drop n, false⟩)
def rnum (st : St) : Nat × St := (((tk 2 st).1.getD 0 0).toNat * 256 + ((tk 2 st).1.getD 1 0).toNat, (tk 2 st).2)
def rtxt (st : St) : List UInt8 × St := tk (rnum st).1 (rnum st).2
def rdeed (st : St) : Rd × St :=
  let r := tk 1 st
  let k := (r.1.getD 0 0).toNat
  if k = 1 then
    let a := rnum r.2
    let c := rnum a.2
    let t := rtxt c.2
    (⟨k, a.1, c.1, ⟨t.1.toArray⟩⟩, t.2)
  else (⟨k, 0, 0, ⟨#[]⟩⟩, r.2)
theorem tk_len (n : Nat) (st : St) : (tk n st).1.length ≤ n ∧ (tk n st).2.left.length ≤ st.left.length := by
  unfold tk
  split
  · simp; omega
  · simp; omega
def RDm (w : World) (R g : Nat) (st : St) : Prop := ∃ o c, Blk w R 102 #[.slice (some ⟨g, o, none⟩) st.left.length c, .bool st.bad] ∧ st.left.length < c ∧ c ≤ maxLen ∧ g < w.heap.size ∧ g ≠ R ∧
  (∀ j u, (by8 st.left)[j]? = some u → w.cell? ⟨g, o + j, none⟩ = some u)
theorem RDm.below {w w' : World} {R g : Nat} {st : St} (h : RDm w R g st) (hb : Below w.heap.size w w') : RDm w' R g st := by
  obtain ⟨o, c, h1, h2, h3, h4, h5, h6⟩ := h
  exact ⟨o, c, h1.below hb h1.lt, h2, h3, Nat.lt_of_lt_of_le h4 hb.size, h5, fun j u hu => (hb.cell (p := ⟨g, o + j, none⟩) h4).trans (h6 j u hu)⟩
/-- A slice of bytes that may be read and is not nil. -/
def BRow (w : World) (v : Value) (l : List UInt8) : Prop := ∃ g o c, v = .slice (some ⟨g, o, none⟩) l.length c ∧ l.length ≤ c ∧ c ≤ maxLen ∧ g < w.heap.size ∧ (∀ j u, (by8 l)[j]? = some u → w.cell? ⟨g, o + j, none⟩ = some u)
theorem BRow.below {w w' : World} {v : Value} {l : List UInt8} (h : BRow w v l) (hb : Below w.heap.size w w') : BRow w' v l := by
  obtain ⟨g, o, c, h1, h2, h3, h4, h6⟩ := h
  exact ⟨g, o, c, h1, h2, h3, Nat.lt_of_lt_of_le h4 hb.size, fun j u hu => (hb.cell (p := ⟨g, o + j, none⟩) h4).trans (h6 j u hu)⟩
def TakePost (R g n : Nat) (st : St) (w : World) (e : Ending) (w' : World) : Prop := ∃ v, e = .returned v ∧ BRow w' v (tk n st).1 ∧ RDm w' R g (tk n st).2 ∧ w.grownBy w' (some R)
theorem zero_cells (w : World) (R g o c m : Nat) (left : List UInt8) (vb : Value) (hB : Blk w R 102 #[.slice (some ⟨g, o, none⟩) left.length c, vb]) (h2 : left.length < c) (h3 : c ≤ maxLen) (h4 : g < w.heap.size) (h5 : g ≠ R) (h6 : ∀ j u, (by8 left)[j]? = some u → w.cell? ⟨g, o + j, none⟩ = some u) (hm : m ≤ 2) :
    BRow ((w.setCell ⟨R, 1, none⟩ (.bool true)).alloc (.cells (madeCells #[.int .u8 0] m) 5)) (.slice (some ⟨w.heap.size, 0, none⟩) m m) (List.replicate m 0) ∧ RDm ((w.setCell ⟨R, 1, none⟩ (.bool true)).alloc (.cells (madeCells #[.int .u8 0] m) 5)) R g ⟨left, true⟩ ∧
    w.grownBy ((w.setCell ⟨R, 1, none⟩ (.bool true)).alloc (.cells (madeCells #[.int .u8 0] m) 5)) (some R) := by
  have HM := World.rowIs_made (w.setCell ⟨R, 1, none⟩ (.bool true)) (.int .u8 0) m 5
  have h1 := grown_set w ⟨R, 1, none⟩ (.bool true)
  have hg := h1.trans (World.grownBy_alloc _ (.cells (madeCells #[.int .u8 0] m) 5) (some R))
  refine ⟨⟨w.heap.size, 0, m, by simp, by simp, by unfold maxLen; omega, by simp, fun j u hu => ?_⟩, ⟨o, c, (hB.set_ 1 (.bool true)).alloc _, h2, h3, by simp; omega, h5, fun j u hu => ?_⟩, hg⟩
  · have hj : j < m := by
      have := (List.getElem?_eq_some_iff.1 hu).1
      simpa [by8] using this
    rw [by8, List.getElem?_map, List.getElem?_replicate, if_pos hj] at hu
    simp at hu
    subst hu
    rw [Nat.zero_add]
    have := HM.cell hj
    simpa using this
  · rw [World.cell?_of_block (a := ⟨g, o + j, none⟩) (hg.block g h4 (by simp [h5]))]
    exact h6 j u hu
set_option maxRecDepth 100000 in
set_option maxHeartbeats 4000000 in
theorem take_any (R g n : Nat) (st : St) (w : World) (h : RDm w R g st) (hn : n ≤ 100000) :
    Calls Try.prog 70 #[.pointer (some ⟨R, 0, none⟩), .int .i64 n] w (TakePost R g n st w) := by
  obtain ⟨o, c, hB, h2, h3, h4, h5, h6⟩ := h
  obtain ⟨left, bad⟩ := st
  simp only at hB h2 h6
  unfold maxLen at h3
  have hRl := hB.lt
  have c0 : w.cell? ⟨R, 0, none⟩ = some (.slice (some ⟨g, o, none⟩) left.length c) := by rw [hB.cell]; rfl
  have c1 : w.cell? ⟨R, 1, none⟩ = some (.bool bad) := by rw [hB.cell]; rfl
  have f0 := hB.frozen 0
  have f1 := hB.frozen 1
  have H6 := Lib.hid h6
  have HB := Lib.hid hB
  have H5 := Lib.hid h5
  clear h6 hB h5
  by_cases hbad : bad = true ∨ left.length < n
  · have e : tk n ⟨left, bad⟩ = (List.replicate (min n 2) 0, ⟨left, true⟩) := by unfold tk; rw [if_pos hbad]
    unfold TakePost
    rw [e]
    clear e
    by_cases hn2 : n ≤ 2
    · have em : min n 2 = n := by omega
      have hni : (n : Int) ≤ 2 := by omega
      rw [em]
      have hmk : ∀ W : World, (Instr.makeSlice 27 (.int .i64 (n : Int)) (.int .i64 (n : Int))).run Try.prog W = .ok (.slice (some ⟨W.heap.size, 0, none⟩) n n) (W.alloc (.cells (madeCells #[.int .u8 0] n) 5)) :=
        fun W => run_make_row' (P := Try.prog) 27 5 (.int .u8 0) 1 Try.underlying27 u8_info rfl .i64 .i64 n (by omega) (by omega) W
      have FIN := Lib.hid (zero_cells w R g o c n left (.bool bad) HB.out h2 (by unfold maxLen; omega) h4 H5.out H6.out (by omega))
      clear em
      cases bad with
      | true =>
        go_enter Try.func70, Try.ntmps70
        go_wp2_with fail
        go_ret
        exact ⟨_, rfl, FIN.out⟩
      | false =>
        have hlt3 : left.length < n := by
          rcases hbad with h | h
          · cases h
          · exact h
        clear hbad
        go_enter Try.func70, Try.ntmps70
        go_wp2_with fail
        go_ret
        exact ⟨_, rfl, FIN.out⟩
    · have em : min n 2 = 2 := by omega
      have hni : ¬ (n : Int) ≤ 2 := by omega
      rw [em]
      have hmk : ∀ W : World, (Instr.makeSlice 27 (.int .i64 2) (.int .i64 2)).run Try.prog W = .ok (.slice (some ⟨W.heap.size, 0, none⟩) 2 2) (W.alloc (.cells (madeCells #[.int .u8 0] 2) 5)) :=
        fun W => run_make_row' (P := Try.prog) 27 5 (.int .u8 0) 1 Try.underlying27 u8_info rfl .i64 .i64 2 (by omega) (by omega) W
      have FIN := Lib.hid (zero_cells w R g o c 2 left (.bool bad) HB.out h2 (by unfold maxLen; omega) h4 H5.out H6.out (by omega))
      clear em
      cases bad with
      | true =>
        go_enter Try.func70, Try.ntmps70
        go_wp2_with fail
        go_ret
        exact ⟨_, rfl, FIN.out⟩
      | false =>
        have hlt3 : left.length < n := by
          rcases hbad with h | h
          · cases h
          · exact h
        clear hbad
        go_enter Try.func70, Try.ntmps70
        go_wp2_with fail
        go_ret
        exact ⟨_, rfl, FIN.out⟩
  · have e : tk n ⟨left, bad⟩ = (left.take n, ⟨left.drop n, false⟩) := by unfold tk; rw [if_neg hbad]
    have hb0 : bad = false := by cases bad with | true => exact absurd (.inl rfl) hbad | false => rfl
    have hnl : n ≤ left.length := by
      rcases Nat.lt_or_ge left.length n with h | h
      · exact absurd (.inr h) hbad
      · exact h
    subst hb0
    unfold TakePost
    rw [e]
    clear e hbad
    have hn3 : decide ((left.length : Int) < (n : Int)) = false := by rw [decide_eq_false_iff_not]; omega
    have hni : (n : Int) ≤ (left.length : Int) := by omega
    have hcn : ¬ c = n := by omega
    have hg : w.grownBy ((w.setCell ⟨R, 1, none⟩ (.bool false)).setCell ⟨R, 0, none⟩ (.slice (some ⟨g, o + n, none⟩) (left.length - n) (c - n))) (some R) := (grown_set w ⟨R, 1, none⟩ _).trans (grown_set _ ⟨R, 0, none⟩ _)
    have hc9 : ∀ j, ((w.setCell ⟨R, 1, none⟩ (.bool false)).setCell ⟨R, 0, none⟩ (.slice (some ⟨g, o + n, none⟩) (left.length - n) (c - n))).cell? ⟨g, j, none⟩ = w.cell? ⟨g, j, none⟩ := fun j => World.cell?_of_block (a := ⟨g, j, none⟩) (hg.block g h4 (by simp [H5.out]))
    have FIN := Lib.hid (show BRow ((w.setCell ⟨R, 1, none⟩ (.bool false)).setCell ⟨R, 0, none⟩ (.slice (some ⟨g, o + n, none⟩) (left.length - n) (c - n))) (.slice (some ⟨g, o, none⟩) n c) (left.take n) ∧
        RDm ((w.setCell ⟨R, 1, none⟩ (.bool false)).setCell ⟨R, 0, none⟩ (.slice (some ⟨g, o + n, none⟩) (left.length - n) (c - n))) R g ⟨left.drop n, false⟩ ∧ w.grownBy ((w.setCell ⟨R, 1, none⟩ (.bool false)).setCell ⟨R, 0, none⟩ (.slice (some ⟨g, o + n, none⟩) (left.length - n) (c - n))) (some R) from by
      refine ⟨⟨g, o, c, by rw [List.length_take, Nat.min_eq_left hnl], by rw [List.length_take]; omega, by unfold maxLen; omega, by simpa using h4, fun j u hu => ?_⟩, ⟨o + n, c - n, ?_, by simp; omega, by unfold maxLen; omega, by simpa using h4, H5.out, fun j u hu => ?_⟩, hg⟩
      · rw [hc9]
        refine H6.out j u ?_
        have hj := (List.getElem?_eq_some_iff.1 hu).1
        simp only [by8, List.map_take, List.getElem?_take] at hu ⊢
        split at hu
        · exact hu
        · cases hu
      · have := (HB.out.set_ 1 (.bool false)).set_ 0 (.slice (some ⟨g, o + n, none⟩) (left.length - n) (c - n))
        simp only [List.length_drop]
        exact this
      · rw [hc9]
        have := H6.out (n + j) u (by
          simp only [by8, List.map_drop, List.getElem?_drop] at hu ⊢
          exact hu)
        rw [← Nat.add_assoc] at this; exact this)
    clear hg hc9
    go_enter Try.func70, Try.ntmps70
    go_wp2_with fail
    go_ret
    exact ⟨_, rfl, FIN.out⟩
theorem or_mul8 (a b : Nat) (h : a < 256) : (b * 256) ||| a = b * 256 + a := by
  rw [show b * 256 = b <<< 8 by rw [Nat.shiftLeft_eq], Nat.shiftLeft_add_eq_or_of_lt h]
theorem or64 (x y : Nat) (hx : x < 36028797018963968) (hy : y < 256) : bits .or .i64 ((x : Int) * 256) (y : Int) = ((x * 256 + y : Nat) : Int) := by
  have e : (x : Int) * 256 = ((x * 256 : Nat) : Int) := by omega
  rw [e]
  show IntKind.i64.wrap ((BitVec.ofInt 64 ((x * 256 : Nat) : Int) ||| BitVec.ofInt 64 ((y : Nat) : Int)).toNat : Int) = _
  rw [BitVec.ofInt_natCast, BitVec.ofInt_natCast, BitVec.toNat_or, BitVec.toNat_ofNat, BitVec.toNat_ofNat, Nat.mod_eq_of_lt (by omega), Nat.mod_eq_of_lt (by omega), or_mul8 y x hy]
  rw [IntKind.wrap_i64]
  omega
theorem brow_two (w : World) (v : Value) (st : St) (h : BRow w v (tk 2 st).1) : ∃ g o c, v = .slice (some ⟨g, o, none⟩) 2 c ∧ 2 ≤ c ∧ c ≤ maxLen ∧ g < w.heap.size ∧ w.cell? ⟨g, o, none⟩ = some (.int .u8 (((tk 2 st).1.getD 0 0).toNat : Int)) ∧ w.cell? ⟨g, o + 1, none⟩ = some (.int .u8 (((tk 2 st).1.getD 1 0).toNat : Int)) := by
  obtain ⟨g, o, c, hv, h1, h2, h3, h4⟩ := h
  have hl : (tk 2 st).1.length = 2 := by
    unfold tk
    split
    · simp
    · rename_i hq
      have : ¬ st.left.length < 2 := fun e => hq (.inr e)
      simp; omega
  rw [hl] at hv h1
  obtain ⟨a, b, hab⟩ : ∃ a b, (tk 2 st).1 = [a, b] := by
    match (tk 2 st).1, hl with
    | [a, b], _ => exact ⟨a, b, rfl⟩
  rw [hab] at h4 ⊢
  exact ⟨g, o, c, hv, h1, h2, h3, h4 0 _ rfl, h4 1 _ rfl⟩
def NumPost (R g : Nat) (st : St) (w : World) (e : Ending) (w' : World) : Prop := e = .returned (.int .i64 ((rnum st).1 : Int)) ∧ RDm w' R g (rnum st).2 ∧ w.grownBy w' (some R)
set_option maxRecDepth 100000 in
set_option maxHeartbeats 4000000 in
theorem rnum_any (R g : Nat) (st : St) (w : World) (h : RDm w R g st) :
    Calls Try.prog 48 #[.pointer (some ⟨R, 0, none⟩)] w (NumPost R g st w) := by
  have HT := Lib.hid (take_any R g 2 st w h (by omega))
  clear h
  go_enter Try.func48, Try.ntmps48
  go_wp2_with (go_at_call 70; refine HT.out.mono ?_)
  rintro e w1 ⟨v, rfl, hv, hr, hg⟩
  obtain ⟨b, o, c, rfl, hc1, hc2, hbl, x0, x1⟩ := brow_two w1 v st hv
  have HR := Lib.hid hr
  have HG := Lib.hid hg
  have hb0 := ((tk 2 st).1.getD 0 0).toNat_lt
  have hb1 := ((tk 2 st).1.getD 1 0).toNat_lt
  have HE : Hid ((rnum st).1 = ((tk 2 st).1.getD 0 0).toNat * 256 + ((tk 2 st).1.getD 1 0).toNat) := Lib.hid rfl
  have HE2 : Hid ((rnum st).2 = (tk 2 st).2) := Lib.hid rfl
  clear hv hr hg
  generalize ((tk 2 st).1.getD 0 0).toNat = x at *
  generalize ((tk 2 st).1.getD 1 0).toNat = y at *
  have hor := or64 x y (by omega) hb1
  go_wp2_with fail
  go_quiet (fail)
  have HDR := Lib.hid (below_drewN (Below.refl w1.heap.size w1) nq)
  go_wp2_with fail
  go_ret
  exact ⟨ret_int (show (x : Int) * 256 + (y : Int) = (((rnum st).1 : Nat) : Int) by rw [HE.out]; omega), by rw [HE2.out]; exact HR.out.below HDR.out, HG.out.trans (grown_of_below HDR.out _)⟩
def TxtPost (R g : Nat) (st : St) (w : World) (e : Ending) (w' : World) : Prop := e = .returned (.string ⟨(rtxt st).1.toArray⟩) ∧ RDm w' R g (rtxt st).2 ∧ w.grownBy w' (some R)
theorem rnum_lt (st : St) : (rnum st).1 < 65536 := by
  have h0 := ((tk 2 st).1.getD 0 0).toNat_lt
  have h1 := ((tk 2 st).1.getD 1 0).toNat_lt
  show ((tk 2 st).1.getD 0 0).toNat * 256 + ((tk 2 st).1.getD 1 0).toNat < 65536
  omega
theorem conv_row (w : World) (v : Value) (l : List UInt8) (h : BRow w v l) : (convert 27 9 v).run Try.prog w = .ok (.string ⟨l.toArray⟩) w := by
  obtain ⟨g, o, c, rfl, h1, h2, h3, h4⟩ := h
  refine run_convert_bytes_back (P := Try.prog) w 27 9 5 ⟨g, o, none⟩ c l Try.underlying27 Try.underlying5 Try.underlying9 (fun j hj => ?_)
  rw [add_plain]
  exact h4 j _ (by rw [by8, List.getElem?_map, List.getElem?_eq_getElem hj]; rfl)
set_option maxRecDepth 100000 in
set_option maxHeartbeats 4000000 in
theorem rtxt_any (R g : Nat) (st : St) (w : World) (h : RDm w R g st) :
    Calls Try.prog 47 #[.pointer (some ⟨R, 0, none⟩)] w (TxtPost R g st w) := by
  have HN := Lib.hid (rnum_any R g st w h)
  have hlt := rnum_lt st
  clear h
  go_enter Try.func47, Try.ntmps47
  go_wp2_with (go_at_call 48; refine HN.out.mono ?_)
  rintro e w1 ⟨rfl, hr, hg⟩
  have HT := Lib.hid (take_any R g (rnum st).1 (rnum st).2 w1 hr (by omega))
  have HG := Lib.hid hg
  clear hr hg
  go_wp2_with (go_at_call 70; refine HT.out.mono ?_)
  rintro e w2 ⟨v, rfl, hv, hr, hg⟩
  have hcv := conv_row w2 v _ hv
  have HR := Lib.hid hr
  have HG2 := Lib.hid (HG.out.trans hg)
  clear hv hr hg
  go_wp2_with fail
  go_ret
  exact ⟨rfl, HR.out, HG2.out⟩
end Go.Proofs.Ytegobmlbldabbaa
