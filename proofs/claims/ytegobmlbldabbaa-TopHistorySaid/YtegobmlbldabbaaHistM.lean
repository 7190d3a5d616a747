/-
  The walks of hist.pop and of the history's change. What else was there is not changed.
-/
import Derived.Test.YtegobmlbldabbaaHist
import Derived.Test.YtegobmlbldabbaaReg
import Derived.Test.YtegobmlbldabbaaOrdC
import Derived.StillTailTactics
import Derived.Deep.DeepCutAuto
namespace Go.Proofs.Ytegobmlbldabbaa
open Go.RowKit
set_option linter.unusedVariables false

theorem snocE (l : List GE) : l = [] ∨ ∃ m g, l = m ++ [g] := by
  rcases List.eq_nil_or_concat l with h | ⟨m, s, h⟩
  · exact .inl h
  · exact .inr ⟨m, s, by simpa using h⟩
theorem set_alloc2 (w : World) (p : Addr) (v : Value) (o1 o2 : Obj) : w.grownBy (((w.setCell p v).alloc o1).alloc o2) (some p.block) := by
  have h1 := grown_set w p v
  have h2 := ((Below.refl (w.setCell p v).heap.size (w.setCell p v)).alloc (Nat.le_refl _) o1).alloc (by simp) o2
  exact ⟨h2.os.trans h1.os, h2.tape.trans h1.tape, h2.output.trans h1.output, Nat.le_trans h1.size h2.size, fun k hk hne => (h2.block k (Nat.lt_of_lt_of_le hk h1.size)).trans (h1.block k hk hne)⟩
theorem grown_step {w wr w2 : World} {R i : Nat} (h : w.grownBy wr (some R)) (hb : Below wr.heap.size wr w2) (u : Value) : w.grownBy (w2.setCell ⟨R, i, none⟩ u) (some R) := by
  have h1 := grown_set w2 ⟨R, i, none⟩ u
  exact ⟨h1.os.trans (hb.os.trans h.os), h1.tape.trans (hb.tape.trans h.tape), h1.output.trans (hb.output.trans h.output), Nat.le_trans h.size (Nat.le_trans hb.size h1.size), fun k hk hne =>
    ((h1.block k (Nat.lt_of_lt_of_le hk (Nat.le_trans h.size hb.size)) hne).trans (hb.block k (Nat.lt_of_lt_of_le hk h.size))).trans (h.block k hk hne)⟩
/-- Of k and u the cells of the history's block: one is written. -/
def PopPost (B R k : Nat) (cs : List Value) (us : List GE) (w : World) (e : Ending) (w' : World) : Prop :=
  (us = [] ∧ e = .returned (.tuple #[.agg #[.slice none 0 0, .slice none 0 0], .bool false]) ∧ Below w.heap.size w w') ∨
  ∃ i x v', us = i ++ [x] ∧ e = .returned (.tuple #[.agg #[x.d, x.b], .bool true]) ∧ w.grownBy w' (some R) ∧ Blk w' R 153 (cs.set k v').toArray ∧
    (∀ w2, OffRow w2 B 173 2 (cs.getD k undef) us.length (cellsOf gc us) → OffRow w2 B 173 2 v' i.length (cellsOf gc i)) ∧ (∀ g, offBlock v' = some g → offBlock (cs.getD k undef) = some g)
set_option maxRecDepth 100000 in
set_option maxHeartbeats 4000000 in
theorem pop_any (B R k : Nat) (c0 c1 c2 c3 v : Value) (us : List GE) (w : World) (hk : k = 1 ∨ k = 2) (hb : Blk w R 153 #[c0, c1, c2, c3]) (hv : v = if k = 1 then c1 else c2) (ho : OffRow w B 173 2 v us.length (cellsOf gc us)) (hl : us.length ≤ 1000)
    (hsl : ∀ y ∈ us, (∃ A n c, y.d = .slice A n c) ∧ ∃ A n c, y.b = .slice A n c) :
    Calls Try.prog 100 #[.pointer (some ⟨R, k, none⟩)] w (PopPost B R k [c0, c1, c2, c3] us w) := by
  have hcell : w.cell? ⟨R, k, none⟩ = some v := by
    rw [hb.cell, hv]; rcases hk with rfl | rfl <;> rfl
  have hfr := hb.frozen k
  have hRl := hb.lt
  obtain ⟨A, cap, rfl, h1, h2⟩ := off_slice ho
  unfold maxLen at h2
  rcases snocE us with rfl | ⟨i, x, rfl⟩
  · have HK := Lib.hid hk
    clear hk hv hb
    simp only [List.length_nil] at *
    go_enter Try.func100, Try.ntmps100
    go_wp2_with fail
    refine bodyPost_ret (v := .tuple #[.agg #[.slice none 0 0, .slice none 0 0], .bool false]) (by simp [results, Try.results100, go_sem]) rfl (.inl ⟨rfl, rfl, ?_⟩)
    exact (Below.refl w.heap.size w).alloc (Nat.le_refl _) _
  · obtain ⟨g, o, cap', hv', hBg, hg, hnc, hcm, hob, hcells, hfz⟩ := ho.form (by simp)
    injection hv' with e1 e2 e3
    subst e1 e3
    have hgR : g ≠ R := fun e => off_blk_ne ho hb (by decide) (by rw [hob, e])
    have hlen : (i ++ [x]).length = i.length + 1 := by simp
    have hcn : (cellsOf gc (i ++ [x])).length = (i.length + 1) * 2 := by rw [cellsOf_len gc_len, hlen]
    have x0 := hcells (i.length * 2) x.d (by rw [cellsOf_snoc, List.getElem?_append_right (by rw [cellsOf_len gc_len]; omega), cellsOf_len gc_len, Nat.sub_self]; rfl)
    have x1 := hcells (i.length * 2 + 1) x.b (by rw [cellsOf_snoc, List.getElem?_append_right (by rw [cellsOf_len gc_len]; omega), cellsOf_len gc_len, show i.length * 2 + 1 - i.length * 2 = 1 by omega]; rfl)
    rw [← Nat.add_assoc] at x1
    have HTK := Lib.hid (fun w2 (h : OffRow w2 B 173 2 (.slice (some ⟨g, o, none⟩) (i ++ [x]).length cap) (i ++ [x]).length (cellsOf gc (i ++ [x]))) => by
      have := h.take (k := i.length) (by rw [hlen]; omega)
      rw [cellsOf_snoc, List.take_append_of_le_length (by rw [cellsOf_len gc_len]; omega), List.take_of_length_le (by rw [cellsOf_len gc_len]; omega)] at this
      exact this)
    have HB := Lib.hid hb
    have HV := Lib.hid hv
    have HOB := Lib.hid hob
    have hzi : i.length ≤ 1000 := by rw [hlen] at hl; omega
    have hK0 := Lib.hid hk
    obtain ⟨⟨A1, n1, c1', e1⟩, A2, n2, c2', e2⟩ := hsl x (by simp)
    rw [e1] at x0
    rw [e2] at x1
    have HE1 := Lib.hid e1
    have HE2 := Lib.hid e2
    simp only [hlen] at hcell h1 hnc ⊢
    clear hcells ho hb hv hcn hob hBg e1 e2 hsl hl hlen hk
    have K1 := Two.new w (.slice none 0 0) (.slice none 0 0) 173
    go_enter Try.func100, Try.ntmps100
    go_wp2_with fail
    refine bodyPost_ret (v := .tuple #[.agg #[.slice A1 n1 c1', .slice A2 n2 c2'], .bool true]) (by simp [results, Try.results100, go_sem]) rfl (.inr ⟨i, x, .slice (some ⟨g, o, none⟩) i.length cap, rfl, by rw [HE1.out, HE2.out], ?_, ?_, ?_, ?_⟩)
    · exact set_alloc2 w ⟨R, k, none⟩ _ _ _
    · have h1 := (((HB.out.set_ k (.slice (some ⟨g, o, none⟩) i.length cap)).alloc (.cells #[.slice A1 n1 c1', .slice A2 n2 c2'] 173)).alloc (.cells #[.slice A1 n1 c1', .slice A2 n2 c2'] 173))
      rcases hK0.out with rfl | rfl
      · exact h1
      · exact h1
    · intro w2 h
      refine HTK.out w2 ?_
      have hV := HV.out
      rcases hK0.out with rfl | rfl
      · rw [if_pos rfl] at hV
        simp only [List.getD_cons_succ, List.getD_cons_zero] at h
        rw [← hV] at h
        exact h
      · rw [if_neg (by omega)] at hV
        simp only [List.getD_cons_succ, List.getD_cons_zero] at h
        rw [← hV] at h
        exact h
    · intro g' hg'
      have hV := HV.out
      have hOB := HOB.out
      have hg2 : g' = g := by
        by_cases hc0 : cap = 0
        · subst hc0; simp [offBlock] at hg'
        · rw [offBlock_some _ _ _ (by omega)] at hg'
          injection hg' with hg'; exact hg'.symm
      subst hg2
      rcases hK0.out with rfl | rfl
      · rw [if_pos rfl] at hV
        simp only [List.getD_cons_succ, List.getD_cons_zero]
        rw [← hV]; exact hOB
      · rw [if_neg (by omega)] at hV
        simp only [List.getD_cons_succ, List.getD_cons_zero]
        rw [← hV]; exact hOB

theorem rn_takeH (es : List Ed) (s : ByteArray) (k : Nat) (h : k < es.length) : rn s (es.take (k + 1)) = mk (rn s (es.take k)) es[k] := by
  rw [List.take_succ_eq_append_getElem h, rn_append]; rfl
theorem okr_atH (es : List Ed) (s : ByteArray) (k : Nat) (h : k < es.length) (h6 : s.size ≤ 600) (ho : okr s.size es) :
    (rn s (es.take k)).size ≤ 600 ∧ es[k].p + es[k].c ≤ (rn s (es.take k)).size := by
  have h1 : okr s.size (es.take k) ∧ okr (sized s.size (es.take k)) (es.drop k) := by rw [← okr_append, List.take_append_drop]; exact ho
  have h2 := rn_size _ s h1.1
  have h3 := sized_600 _ _ h6 h1.1
  rw [List.drop_eq_getElem_cons h] at h1
  rw [h2]
  exact ⟨h3, h1.2.1⟩
theorem okr_putH (es : List Ed) : ∀ n, n ≤ 600 → okr n es → ∀ e ∈ es, e.put.size ≤ 600 := by
  induction es with
  | nil => intro n _ _ e he; simp at he
  | cons d es ih =>
    intro n hn ho e he
    obtain ⟨h1, h2, h3⟩ := ho
    rcases List.mem_cons.1 he with rfl | he
    · omega
    · exact ih _ (by omega) h3 e he
/-- Only the history's own block has changed, and what was laid since. -/
def ChgPost (R : Nat) (c1 c2 : Value) (t : ByteArray) (v : Value) (w : World) (e : Ending) (w' : World) : Prop :=
  e = .returned v ∧ w.grownBy w' (some R) ∧ Blk w' R 153 #[.string t, c1, c2, .bool false]
set_option maxRecDepth 100000 in
set_option maxHeartbeats 4000000 in
theorem change_any (R : Nat) (s : ByteArray) (c1 c2 : Value) (f : Bool) (v : Value) (es : List Ed) (w : World) (hb : Blk w R 153 #[.string s, c1, c2, .bool f]) (ho : w.ownsRow 0 34 3 v es.length (edCells es)) (hs : s.size ≤ 600) (hok : okr s.size es) (hl : es.length ≤ 1000) :
    Calls Try.prog 101 #[.pointer (some ⟨R, 0, none⟩), v] w (ChgPost R c1 c2 (rn s es) v w) := by
  have HOK := Lib.hid hok
  have HP := Lib.hid (okr_putH es _ hs hok)
  obtain ⟨A, cap, rfl, h1, h2⟩ := own_slice ho
  unfold maxLen at h2
  have HO := Lib.hid ho
  have HB := Lib.hid hb
  have hRl := hb.lt
  clear hok ho hb
  go_enter Try.func101, Try.ntmps101
  go_wp2_with fail
  go_loopw [9] (fun i wr => ∃ k : Nat, k ≤ es.length ∧ i = .int .i64 k ∧ w.grownBy wr (some R) ∧ Blk wr R 153 #[.string (rn s (es.take k)), c1, c2, .bool f]) (fun i _ => es.length - (intOf i).toNat)
  case atStart => exact ⟨0, Nat.zero_le _, rfl, World.grownBy.refl w _, HB.out⟩
  case round =>
    obtain ⟨k, hk, rfl, hgw, hbw⟩ := hrel
    have hE : Apart w (some R) := .inr ⟨R, _, _, rfl, HB.out, by decide⟩
    have how := own_apart HO.out hgw hE
    have hRw := hbw.lt
    by_cases hlt : k < es.length
    · have hq := okr_atH es s k hlt hs HOK.out
      have hpt := HP.out es[k] (List.getElem_mem hlt)
      have hrd : Reads wr wr.heap.size 3 A es.length (edCells es) := by
        have := Reads.of_own how
        exact this
      obtain ⟨b0, o0, rfl, hb0, x0, x1, x2⟩ := EdRow.at_ hrd hlt
      have HR := Lib.hid (rn_takeH es s k hlt)
      generalize rn s (es.take k) = t at *
      have HM := Lib.hid (fun W => made_any t es[k].p es[k].c es[k].put W hq.2 (by omega) (by omega))
      have HMK := Lib.hid (show mk t es[k] = mk t ⟨es[k].p, es[k].c, es[k].put⟩ from rfl)
      have T1 := Three.new wr (.int .i64 (es[k].p : Int)) (.int .i64 (es[k].c : Int)) (.string es[k].put) 34
      have hbx := hbw.alloc (.cells #[.int .i64 (es[k].p : Int), .int .i64 (es[k].c : Int), .string es[k].put] 34)
      have HBX := Lib.hid hbx
      have HGW := Lib.hid hgw
      clear how hrd hq hpt hbw hgw hE hbx
      generalize es[k].p = p at *
      generalize es[k].c = c at *
      generalize es[k].put = put at *
      go_wp2_with fail
      have hbl : Below wr.heap.size wr (wr.alloc (.cells #[.int .i64 (p : Int), .int .i64 (c : Int), .string put] 34)) := (Below.refl _ _).alloc (Nat.le_refl _) _
      have hsz : (wr.alloc (.cells #[.int .i64 (p : Int), .int .i64 (c : Int), .string put] 34)).heap.size = wr.heap.size + 1 := by simp
      have HBL := Lib.hid hbl
      generalize wr.alloc (.cells #[.int .i64 (p : Int), .int .i64 (c : Int), .string put] 34) = W at *
      clear hbl x0 x1 x2
      refine wp_region_mix 9 0 (fun w' => Below W.heap.size W w') (by kernel_rfl) (by kernel_rfl) (fun _ _ h1 h2 => bstep h1 h2) (Below.refl _ _) ?_
      intro ι F hne' hF
      have hRW : R < W.heap.size := by omega
      have t0F : ∀ i, (F i).cell? ⟨wr.heap.size, 0, none⟩ = some (.int .i64 (p : Int)) := fun i => (T1.later (hF i)).2.1
      have t1F : ∀ i, (F i).cell? ⟨wr.heap.size, 1, none⟩ = some (.int .i64 (c : Int)) := fun i => (T1.later (hF i)).2.2.1
      have t2F : ∀ i, (F i).cell? ⟨wr.heap.size, 2, none⟩ = some (.string put) := fun i => (T1.later (hF i)).2.2.2
      have r0F : ∀ i, (F i).cell? ⟨R, 0, none⟩ = some (.string t) := fun i => by rw [(HBX.out.below (hF i) hRW).cell]; rfl
      simp only [List.take_succ_cons, List.take_zero, List.drop_succ_cons, List.drop_zero]
      repeat (refine wpB_step (fun K hK => ?_); go_simp; first | (refine hK _ ?_; clear hK K) | (apply Exists.intro; refine ⟨fun _ => ?_, hK _ ?_⟩; (first | ((with_reducible refine (HM.out _).mono ?_); rintro e w1 ⟨rfl, hb⟩; exact ⟨rfl, hb⟩)); clear hK K))
      refine wpB_nil ?_
      intro w2 hw2 hI2
      clear t0F t1F t2F r0F hF
      refine wpR_nil ?_
      have hB2 := HBX.out.below hI2 hRW
      have hfr := hB2.frozen 0
      have hc0 : w2.cell? ⟨R, 0, none⟩ = some (.string t) := by rw [hB2.cell]; rfl
      have HN := Lib.hid (hB2.set_ 0 (.string (mk t ⟨p, c, put⟩)))
      have HG2 := Lib.hid (grown_step (i := 0) HGW.out (HBL.out.trans (hI2.mono (by omega))) (.string (mk t ⟨p, c, put⟩)))
      clear hB2
      go_wp2_with fail
      go_roundw
      case rel =>
        have e : rn s (es.take (k + 1)) = mk t ⟨p, c, put⟩ := by rw [HR.out, HMK.out]
        first | exact ⟨k + 1, by omega, by go_num, HG2.out, by rw [e]; exact HN.out⟩ | ((repeat apply Exists.intro); exact ⟨⟨k + 1, by omega, by go_num, HG2.out, by rw [e]; exact HN.out⟩, rfl⟩)
      case measure => simp [intOf]; omega
    · obtain rfl : k = es.length := by omega
      have e : es.take es.length = es := List.take_length
      rw [e] at hbw
      have hfr := hbw.frozen 3
      have hc3 : wr.cell? ⟨R, 3, none⟩ = some (.bool f) := by rw [hbw.cell]; rfl
      have HN := Lib.hid (hbw.set_ 3 (.bool false))
      have HG2 := Lib.hid (grown_step (i := 3) hgw (Below.refl _ _) (.bool false))
      clear hbw hgw how e
      go_wp2_with fail
      refine bodyPost_ret (v := .slice A es.length cap) (by simp [results, Try.results101, go_sem]) rfl ⟨rfl, HG2.out, HN.out⟩
end Go.Proofs.Ytegobmlbldabbaa
