/-
  The walks of the statements' helpers copiedWords and sameWords.
-/
import Derived.Test.YtpgjjnbepkofdaaWrdX
import Derived.Test.YtpgjjnbepkofdaaOrdC
import Derived.Test.YtpgjjnbepkofdaaSame
import Derived.Test.YtpgjjnbepkofdaaReg
namespace Go.Proofs.Ytpgjjnbepkofdaa
open Go.RowKit
set_option linter.unusedVariables false
set_option linter.unusedSimpArgs false

theorem ints_row {w : World} {B : Nat} {v : Value} {xs : List Int} (h : w.ownsInts B 3 .i64 v xs) : Row .i64 w v xs := row_of_own h.1 h.2
def CopiedPost (l : List WV) (w : World) (e : Ending) (w' : World) : Prop :=
  ∃ v' l', e = .returned v' ∧ WRd w' v' l' ∧ l'.map (fun x => (x.k, x.at_)) = l.map (fun x => (x.k, x.at_)) ∧ Below w.heap.size w w'
set_option maxRecDepth 100000 in
set_option maxHeartbeats 8000000 in
theorem copiedW_any (v : Value) (l : List WV) (w : World) (hl : WRd w v l) (hll : l.length ≤ 1000) (hat : ∀ x ∈ l, x.at_.length ≤ 1000) :
    Calls Try.prog 23 #[v] w (CopiedPost l w) := by
  obtain ⟨A, c, rfl, hc1, hc2, hrd⟩ := id hl.row
  have HL := Lib.hid hl
  have HRD := Lib.hid hrd
  have HAT := Lib.hid hat
  clear hl hrd hat
  go_enter Try.func23, Try.ntmps23
  go_wp2_with fail
  go_loopw [3, 4] (fun vo vi W => ∃ (i : Nat) (m : List WV), i ≤ l.length ∧ vi = .int .i64 (i : Int) ∧ m.map (fun x => (x.k, x.at_)) = (l.take i).map (fun x => (x.k, x.at_)) ∧ m.length = i ∧ W.ownsRow w.heap.size 42 2 vo m.length (cellsOf wvc m) ∧ (∀ x ∈ m, W.ownsInts w.heap.size 3 .i64 x.v x.at_) ∧ Below w.heap.size w W) (fun _ vi _ => l.length - (intOf vi).toNat)
  case atStart => exact ⟨0, [], Nat.zero_le _, rfl, rfl, rfl, World.ownsRow_nil _ _ _ _, by simp, Below.refl _ _⟩
  case round =>
    obtain ⟨i, m, hi, rfl, hm, hml, ho, hr, hb⟩ := hrel
    have HM := Lib.hid hm
    have HML := Lib.hid hml
    have HO := Lib.hid ho
    have HR := Lib.hid hr
    have HB := Lib.hid hb
    clear hm hml ho hr hb
    rcases Nat.lt_or_ge i l.length with hlt | hge
    · have k1 : (i : Int) < (l.length : Int) := by omega
      have k2 : (0 : Int) ≤ (i : Int) := by omega
      obtain ⟨b0, o0, rfl, d01, d02, d03⟩ := CRow.at2 (x := fun x : WV => Value.string ⟨x.k.toArray⟩) (y := fun x : WV => x.v) (HRD.out.below HB.out) hlt
      have ra := HL.out.at_ _ (List.getElem_mem hlt)
      have hal := HAT.out _ (List.getElem_mem hlt)
      have htk : l.take (i + 1) = l.take i ++ [l[i]] := List.take_succ_eq_append_getElem hlt
      generalize l[i] = x at *
      obtain ⟨Ax, cx, ev, hcx1, hcx2, hwf, hrx⟩ := id ra
      rw [ev] at d03
      have HTK := Lib.hid htk
      have HRX := Lib.hid hrx
      have HWF := Lib.hid hwf
      clear ra htk hrx ev hwf
      go_wp2_with fail
      refine wp_region_ph [([0, 1, 2, 3, 4, 5, 6, 7, 8, 9, 10], [11]), ([12], [13, 14]), ([15], [])] (Below w.heap.size w) (by kernel_rfl) (by kernel_rfl) (fun _ _ h1 h2 => bstep h1 h2) HB.out ?_
      intro ι F hne hF W0 hW0 hI0
      have c0F : ∀ i', (F i').cell? ⟨b0, o0 + i * 2, none⟩ = some (.string ⟨x.k.toArray⟩) := fun i' => by
        have h1 := (HB.out.cell (p := ⟨b0, o0 + i * 2, none⟩) d01).symm.trans d02
        exact ((hF i').cell (p := ⟨b0, o0 + i * 2, none⟩) d01).trans h1
      have c1F : ∀ i', (F i').cell? ⟨b0, o0 + i * 2 + 1, none⟩ = some (.slice Ax x.at_.length cx) := fun i' => by
        have h1 := (HB.out.cell (p := ⟨b0, o0 + i * 2 + 1, none⟩) d01).symm.trans d03
        exact ((hF i').cell (p := ⟨b0, o0 + i * 2 + 1, none⟩) d01).trans h1
      (refine wpPh_cons ?_; simp only [pickOps, List.getElem?_cons_succ, List.getElem?_cons_zero])
      repeat (refine wpB_step (fun K hK => ?_); go_simp; first | (refine hK _ ?_; clear hK K) | (apply Exists.intro; refine ⟨fun _ => ?_, hK _ ?_⟩; (fail); clear hK K))
      refine wpB_nil ?_
      intro w2 hw2 hI2
      clear c0F c1F hF
      have hO2 := own_below (own_below HO.out hW0) (show Below W0.heap.size W0 w2 from hw2)
      have hR2 : ∀ y ∈ m, w2.ownsInts w.heap.size 3 .i64 y.v y.at_ := fun y hy => (HR.out y hy).kept (grown_of_below (bstep hW0 hw2) none) (by cases y.v.ownBlock <;> simp)
      refine wpRB_append_any rfl (.const (.slice none 0 0)) (.tmp 21) _ rfl w.heap.size 3 _ 1 8 Try.underlying22 int_info2 rfl (by decide) (.slice none 0 0) 0 [] rfl (World.ownsRow_nil _ _ _ _) w.heap.size Ax x.at_.length cx (x.at_.map (.int .i64)) rfl (HRX.out.below hI2) (ints_one _) (by unfold maxLen; omega) (by omega) hI2.size ?_
      intro v3 w3 h31 h32 h33
      rw [Nat.zero_add, List.nil_append] at h31
      have hI3 : Below w.heap.size w w3 := hI2.grown h32 hI2.size (fun q hq => by simp [Value.ownBlock] at hq)
      have g3 : w2.grownBy w3 none := h32
      have hO3 := hO2.kept g3 (by cases u3.ownBlock <;> simp)
      have hR3 : ∀ y ∈ m, w3.ownsInts w.heap.size 3 .i64 y.v y.at_ := fun y hy => (hR2 y hy).kept g3 (by cases y.v.ownBlock <;> simp)
      refine ⟨hI3, ?_⟩
      intro w4 hw4 hI4
      have hO4 := own_below hO3 hw4
      have hV4 := own_below h31 hw4
      have hR4 : ∀ y ∈ m, w4.ownsInts w.heap.size 3 .i64 y.v y.at_ := fun y hy => (hR3 y hy).kept (grown_of_below hw4 none) (by cases y.v.ownBlock <;> simp)
      clear hO2 hR2 hO3 hR3 g3 h31 h32 h33 hI2 hI3 hw2 hw4 hW0 hI0
      obtain ⟨A3, c3, rfl, hc31, hc32⟩ := own_slice hV4
      have HO4 := Lib.hid hO4
      have HV4 := Lib.hid hV4
      have HR4 := Lib.hid hR4
      clear hO4 hV4 hR4
      refine wpRB_nil ?_
      (refine wpPh_cons ?_; simp only [pickOps, List.getElem?_cons_succ, List.getElem?_cons_zero])
      repeat (refine wpB_step (fun K hK => ?_); go_simp; first | (refine hK _ ?_; clear hK K) | (apply Exists.intro; refine ⟨fun _ => ?_, hK _ ?_⟩; (fail); clear hK K))
      refine wpB_nil ?_
      intro w5 hw5 hI5
      (refine wpRB_step (fun K hK => ?_); go_simp; refine hK _ _ ⟨hI5.alloc hI5.size _, ?_⟩; clear hK K)
      intro w6 hw6 hI6
      have hb6 : Below w4.heap.size w4 w6 := bstep (hw5.alloc hw5.size _) hw6
      have hr6 := (Reads.new w5 [.string ⟨x.k.toArray⟩, .slice A3 x.at_.length c3] 42 2 rfl).below hw6
      have hO6 := own_below HO4.out hb6
      have hml : m.length ≤ 1000 := by rw [HML.out]; omega
      refine wpRB_append_any rfl (.tmp 11) (.tmp 24) _ rfl w.heap.size 42 _ 2 40 Try.underlying38 word_info rfl (by decide) _ m.length (cellsOf wvc m) rfl hO6 _ (some ⟨w5.heap.size, 0, none⟩) 1 1 [.string ⟨x.k.toArray⟩, .slice A3 x.at_.length c3] rfl hr6 (by simp [Value.oneCell']) (by unfold maxLen; omega) (by omega) hI6.size ?_
      intro v7 w7 h71 h72 h73
      have hI7 : Below w.heap.size w w7 := hI6.grown h72 hI6.size (fun q hq => (hO6.lt q hq).1)
      refine ⟨hI7, ?_⟩
      intro w8 hw8 hI8
      obtain ⟨y, hy⟩ : ∃ y : WV, y = ⟨x.k, x.at_, .slice A3 x.at_.length c3⟩ := ⟨_, rfl⟩
      have e1 : cellsOf wvc (m ++ [y]) = cellsOf wvc m ++ [.string ⟨x.k.toArray⟩, .slice A3 x.at_.length c3] := by
        rw [hy, cellsOf_snoc]; rfl
      have ho8 : w8.ownsRow w.heap.size 42 2 v7 (m ++ [y]).length (cellsOf wvc (m ++ [y])) := by
        rw [e1, List.length_append, List.length_singleton]; exact own_below h71 hw8
      have hr8 : ∀ z ∈ m ++ [y], w8.ownsInts w.heap.size 3 .i64 z.v z.at_ := fun z hz => by
        have k6 : ∀ (u : Value) (xs : List Int), w4.ownsInts w.heap.size 3 .i64 u xs → w8.ownsInts w.heap.size 3 .i64 u xs := fun u xs h => by
          have a1 : w6.ownsInts w.heap.size 3 .i64 u xs := h.kept (grown_of_below hb6 none) (by cases u.ownBlock <;> simp)
          have a2 := a1.kept h72 (own_ne_kind2 a1.1 hO6 (by decide))
          exact a2.kept (grown_of_below hw8 none) (by cases u.ownBlock <;> simp)
        rcases List.mem_append.1 hz with hz | hz
        · exact k6 _ _ (HR4.out z hz)
        · rw [List.mem_singleton.1 hz, hy]
          exact k6 _ _ ⟨HV4.out, HWF.out⟩
      have HALL := Lib.hid (And.intro ho8 (And.intro hr8 hI8))
      have HY := Lib.hid hy
      clear h71 h72 h73 hI7 hw8 e1 ho8 hr8 hy hO6 hr6 hb6 hI6 hw6 hI5 hw5 HO4 HV4 HR4 hI8
      refine wpRB_nil ?_
      (refine wpPh_cons ?_; simp only [pickOps, List.getElem?_cons_succ, List.getElem?_cons_zero])
      repeat (refine wpB_step (fun K hK => ?_); go_simp; first | (refine hK _ ?_; clear hK K) | (apply Exists.intro; refine ⟨fun _ => ?_, hK _ ?_⟩; (fail); clear hK K))
      refine wpB_nil ?_
      intro w9 hw9 hI9
      refine wpRB_nil ?_
      refine wpPh_nil ?_
      have ho9 := own_below HALL.out.1 hw9
      have hr9 : ∀ z ∈ m ++ [y], w9.ownsInts w.heap.size 3 .i64 z.v z.at_ := fun z hz => (HALL.out.2.1 z hz).kept (grown_of_below hw9 none) (by cases z.v.ownBlock <;> simp)
      have HA9 := Lib.hid (And.intro ho9 (And.intro hr9 hI9))
      clear ho9 hr9 hI9 hw9
      go_wp2_with fail
      refine ⟨⟨i + 1, m ++ [y], by omega, by go_num, ?_, ?_, HA9.out.1, HA9.out.2.1, HA9.out.2.2⟩, by simp [intOf]; omega⟩
      · rw [HTK.out, List.map_append, List.map_append, HM.out, HY.out]; rfl
      · rw [List.length_append, HML.out]; rfl
    · have k1 : decide ((i : Int) < (l.length : Int)) = false := decide_eq_false (by omega)
      go_wp2_with fail
      go_ret
      exact ⟨_, m, rfl, ⟨CRow.of_own wvc_len HO.out, fun x hx => ints_row (HR.out x hx)⟩, by rw [HM.out, List.take_of_length_le hge], HB.out⟩
set_option maxRecDepth 100000 in
set_option maxHeartbeats 8000000 in
theorem sameW_any (va vb : Value) (l l' : List WV) (w : World) (ha : WRd w va l) (hb : WRd w vb l') (hll : l.length ≤ 1000) (hk : l.map (fun x => (x.k, x.at_)) = l'.map (fun x => (x.k, x.at_))) :
    Calls Try.prog 25 #[va, vb] w fun e w' => e = .returned (.bool true) ∧ Below w.heap.size w w' := by
  have hlen : l'.length = l.length := by have := congrArg List.length hk; simpa using this.symm
  obtain ⟨A0, c0, rfl, hl0, hc0, hr0⟩ := id ha.row
  obtain ⟨A1, c1, rfl, hl1, hc1, hr1⟩ := id hb.row
  rw [hlen] at hl1
  rw [hlen]
  have HA := Lib.hid ha
  have HB := Lib.hid hb
  have HL := Lib.hid hlen
  have HK := Lib.hid hk
  have HR0 := Lib.hid hr0
  have HR1 := Lib.hid hr1
  clear ha hb hlen hk hr0 hr1
  go_enter Try.func25, Try.ntmps25
  go_wp2_with fail
  go_loopw [5] (fun i wr => ∃ k : Nat, k ≤ l.length ∧ i = .int .i64 k ∧ Below w.heap.size w wr) (fun i _ => l.length - (intOf i).toNat)
  case atStart => exact ⟨0, Nat.zero_le _, rfl, Below.refl _ _⟩
  case round =>
    obtain ⟨k, hk, rfl, hbel⟩ := hrel
    have HBR := Lib.hid hbel
    clear hbel
    by_cases hlt : k < l.length
    · have k1 : (k : Int) < (l.length : Int) := by omega
      have k2 : (0 : Int) ≤ (k : Int) := by omega
      have hlt' : k < l'.length := by rw [HL.out]; exact hlt
      have hkk : (l[k].k, l[k].at_) = (l'[k].k, l'[k].at_) := by
        have h9 := congrArg (fun m : List (List UInt8 × List Int) => m[k]?) HK.out
        simp only [List.getElem?_map, List.getElem?_eq_getElem hlt, List.getElem?_eq_getElem hlt', Option.map_some] at h9
        injection h9
      obtain ⟨b0, o0, rfl, d01, d02, d03⟩ := CRow.at2 (x := fun x : WV => Value.string ⟨x.k.toArray⟩) (y := fun x : WV => x.v) (HR0.out.below HBR.out) hlt
      obtain ⟨b1, o1, rfl, d11, d12, d13⟩ := CRow.at2 (x := fun x : WV => Value.string ⟨x.k.toArray⟩) (y := fun x : WV => x.v) (HR1.out.below HBR.out) hlt'
      have ra := (HA.out.at_ _ (List.getElem_mem hlt)).later HBR.out
      have rb := (HB.out.at_ _ (List.getElem_mem hlt')).later HBR.out
      generalize l[k] = x at *
      generalize l'[k] = y at *
      obtain ⟨xk, xa, xv⟩ := x
      obtain ⟨yk, ya, yv⟩ := y
      simp only [Prod.mk.injEq] at hkk d02 d03 d12 d13 ra rb
      obtain ⟨rfl, rfl⟩ := hkk
      obtain ⟨Ax, cx, rfl, _, _, _, _⟩ := id ra
      obtain ⟨Ay, cy, rfl, _, _, _, _⟩ := id rb
      have S := Lib.hid (fun W (hW : Below wr.heap.size wr W) => sameInts_any _ _ xa xa W (ra.later hW) (rb.later hW))
      have dd : decide (xa = xa) = true := decide_eq_true rfl
      have hq : (xk == xk) = true := by simp
      have hq2 : (xk != xk) = false := by simp
      clear ra rb HA HB HK
      have d01 := Nat.lt_of_lt_of_le d01 HBR.out.size
      have d11 := Nat.lt_of_lt_of_le d11 HBR.out.size
      go_wp2_with fail
      refine wp_region_below (by kernel_rfl) (by kernel_rfl) ?_
      intro ι F hne' hF hG
      have c0F : ∀ i', (F i').cell? ⟨b0, o0 + k * 2, none⟩ = some (.string ⟨xk.toArray⟩) := fun i' => ((hF i').cell (p := ⟨b0, o0 + k * 2, none⟩) d01).trans d02
      have c1F : ∀ i', (F i').cell? ⟨b0, o0 + k * 2 + 1, none⟩ = some (.slice Ax xa.length cx) := fun i' => ((hF i').cell (p := ⟨b0, o0 + k * 2 + 1, none⟩) d01).trans d03
      have c2F : ∀ i', (F i').cell? ⟨b1, o1 + k * 2, none⟩ = some (.string ⟨xk.toArray⟩) := fun i' => ((hF i').cell (p := ⟨b1, o1 + k * 2, none⟩) d11).trans d12
      have c3F : ∀ i', (F i').cell? ⟨b1, o1 + k * 2 + 1, none⟩ = some (.slice Ay xa.length cy) := fun i' => ((hF i').cell (p := ⟨b1, o1 + k * 2 + 1, none⟩) d11).trans d13
      clear d01 d02 d03 d11 d12 d13
      repeat go_big_quiet_step (first | ((with_reducible refine (S.out _ (hF _)).mono ?_); rintro e w1 ⟨rfl, hb⟩; exact ⟨rfl, hG _ _ hb⟩) | fail)
      refine wpQuiet_nil ?_
      intro wq hw'
      obtain ⟨nq, rfl⟩ := hw'
      have hbq := hF nq
      generalize F nq = wq at *
      clear c0F c1F c2F c3F hF hG
      have HBQ := Lib.hid (bstep HBR.out hbq)
      clear hbq S
      go_wp2_with fail
      exact ⟨⟨k + 1, hlt, by go_num, HBQ.out⟩, by simp [intOf]; omega⟩
    · have k1 : decide ((k : Int) < (l.length : Int)) = false := decide_eq_false (by omega)
      go_wp2_with fail
      go_ret
      exact ⟨rfl, HBR.out⟩
end Go.Proofs.Ytpgjjnbepkofdaa
