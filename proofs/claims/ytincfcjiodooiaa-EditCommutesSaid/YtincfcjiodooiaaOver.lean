/-
  The walks of edit.nothing, edit.within, edit.clash: do two edits touch the same? Conditions: all numbers are small. Nothing that was there is changed.
-/
import Derived.Test.YtincfcjiodooiaaMoved
import Derived.LoopN
import Derived.Laws.Cover1
namespace Go.Proofs.Ytincfcjiodooiaa
open Go.RowKit
set_option linter.unusedVariables false

theorem bl_asym : ∀ x y : List UInt8, Op.bytesLess x y = true → Op.bytesLess y x = false
  | _, [] => by simp [Op.bytesLess]
  | [], _ :: _ => by simp [Op.bytesLess]
  | a :: x, b :: y => by
    simp only [Op.bytesLess, Bool.or_eq_true, Bool.and_eq_true, decide_eq_true_eq, beq_iff_eq, Bool.or_eq_false_iff, Bool.and_eq_false_iff, decide_eq_false_iff_not]
    rintro (h | ⟨rfl, h⟩)
    · exact ⟨fun h2 => absurd (UInt8.lt_trans h h2) (UInt8.lt_irrefl _), .inl (by rw [beq_eq_false_iff_ne]; rintro rfl; exact UInt8.lt_irrefl _ h)⟩
    · exact ⟨UInt8.lt_irrefl _, .inr (bl_asym x y h)⟩
theorem bl_total : ∀ x y : List UInt8, Op.bytesLess x y = false → Op.bytesLess y x = false → x = y
  | [], [] => fun _ _ => rfl
  | a :: x, [] => by simp [Op.bytesLess]
  | [], b :: y => by simp [Op.bytesLess]
  | a :: x, b :: y => by
    simp only [Op.bytesLess, Bool.or_eq_false_iff, Bool.and_eq_false_iff, decide_eq_false_iff_not, beq_eq_false_iff_ne]
    rintro ⟨h1, h2⟩ ⟨h3, h4⟩
    have he : a = b := UInt8.le_antisymm (UInt8.not_lt.1 h3) (UInt8.not_lt.1 h1)
    subst he
    rw [bl_total x y (h2.resolve_left (fun h => h rfl)) (h4.resolve_left (fun h => h rfl))]
/-- The text a comes behind the text b. -/
def gt (a b : ByteArray) : Bool := !(Op.bytesLess a.toList b.toList || a.toList == b.toList)
theorem gt_asym (a b : ByteArray) (h : gt a b = true) : gt b a = false := by
  unfold gt at h ⊢
  simp only [Bool.not_eq_true', Bool.or_eq_false_iff] at h
  cases h2 : Op.bytesLess b.toList a.toList with
  | true => simp
  | false =>
    have := bl_total _ _ h.1 h2
    rw [this] at h; simp at h
theorem gt_none (a b : ByteArray) (h1 : gt a b = false) (h2 : gt b a = false) : a = b := by
  unfold gt at h1 h2
  simp only [Bool.not_eq_false', Bool.or_eq_true, beq_iff_eq] at h1 h2
  have key : a.toList = b.toList := by
    rcases h1 with h1 | h1
    · rcases h2 with h2 | h2
      · rw [bl_asym _ _ h1] at h2; cases h2
      · exact h2.symm
    · exact h1
  apply bytes_ext; rwa [Lib.toList_data, Lib.toList_data] at key

def noth (e : Ed) : Prop := e.c = 0 ∧ e.put.size = 0
instance (e : Ed) : Decidable (noth e) := by unfold noth; infer_instance
def wi (a b : Ed) : Prop := a.put.size ≠ 0 ∧ b.p < a.p ∧ a.p < b.p + b.c
instance (a b : Ed) : Decidable (wi a b) := by unfold wi; infer_instance
def clash (a b : Ed) : Prop := ¬ noth a ∧ ¬ noth b ∧ (max a.p b.p < min (a.p + a.c) (b.p + b.c) ∨ wi a b ∨ wi b a)
instance (a b : Ed) : Decidable (clash a b) := by unfold clash; infer_instance
theorem clash_comm (a b : Ed) : clash a b ↔ clash b a := by
  unfold clash wi; rw [Nat.max_comm, Nat.min_comm]
  constructor <;> (rintro ⟨h1, h2, h3⟩; refine ⟨h2, h1, ?_⟩; rcases h3 with h | h | h <;> simp [h])
theorem emp_true {s : ByteArray} (h : s.size = 0) : s.toList.isEmpty = true := by
  rw [Lib.toList_data]
  have hl : s.data.toList.length = s.size := by simp
  rw [List.isEmpty_iff_length_eq_zero]; omega
theorem emp_false {s : ByteArray} (h : s.size ≠ 0) : s.toList.isEmpty = false := by
  rw [Lib.toList_data]
  have hl : s.data.toList.length = s.size := by simp
  cases h2 : s.data.toList with
  | nil => rw [h2] at hl; simp at hl; omega
  | cons _ _ => rfl

set_option maxHeartbeats 1000000 in
theorem nothing_any (e : Ed) (w : World) :
    Calls Try.prog 72 #[edv e] w fun z w' => z = .returned (.bool (decide (noth e))) ∧ Below w.heap.size w w' := by
  obtain ⟨p, c, put⟩ := e
  unfold edv
  by_cases hc : c = 0
  · have e1 : ((c : Int) == 0) = true := by simp; omega
    by_cases hp : put.size = 0
    · have H := Lib.hid (show decide (noth ⟨p, c, put⟩) = true by simp [noth, hc, hp])
      have e2 := emp_true hp
      clear hp hc
      go_enter Try.func72, Try.ntmps72
      go_wp2_with fail
      go_ret
      exact ⟨ret_bool H.out.symm, (Below.refl _ _).alloc (Nat.le_refl _) _⟩
    · have H := Lib.hid (show decide (noth ⟨p, c, put⟩) = false by simp [noth, hp])
      have e2 := emp_false hp
      clear hp hc
      go_enter Try.func72, Try.ntmps72
      go_wp2_with fail
      go_ret
      exact ⟨ret_bool H.out.symm, (Below.refl _ _).alloc (Nat.le_refl _) _⟩
  · have e1 : ((c : Int) == 0) = false := by simp; omega
    have H := Lib.hid (show decide (noth ⟨p, c, put⟩) = false by simp [noth, hc])
    clear hc
    go_enter Try.func72, Try.ntmps72
    go_wp2_with fail
    go_ret
    exact ⟨ret_bool H.out.symm, (Below.refl _ _).alloc (Nat.le_refl _) _⟩
set_option maxHeartbeats 1000000 in
theorem within_any (a b : Ed) (w : World) (ha : a.p ≤ 100000) (hb : b.p ≤ 100000) (hc : b.c ≤ 100000) :
    Calls Try.prog 73 #[edv a, edv b] w fun z w' => z = .returned (.bool (decide (wi a b))) ∧ Below w.heap.size w w' := by
  obtain ⟨p, c, put⟩ := a
  obtain ⟨q, d, qut⟩ := b
  unfold edv
  simp only at ha hb hc
  by_cases h1 : put.size = 0
  · have H := Lib.hid (show decide (wi ⟨p, c, put⟩ ⟨q, d, qut⟩) = false by simp [wi, h1])
    have e2 := emp_true h1
    clear h1
    go_enter Try.func73, Try.ntmps73
    go_wp2_with fail
    go_ret
    exact ⟨ret_bool H.out.symm, ((Below.refl _ _).alloc (Nat.le_refl _) _).alloc (by simp) _⟩
  · have e2 := emp_false h1
    by_cases h2 : q < p
    · have d1 : decide ((q : Int) < (p : Int)) = true := by simp; omega
      by_cases h3 : p < q + d
      · have d2 : decide ((p : Int) < (q : Int) + (d : Int)) = true := by simp; omega
        have H := Lib.hid (show decide (wi ⟨p, c, put⟩ ⟨q, d, qut⟩) = true by simp [wi, h1, h2, h3])
        clear h1
        go_enter Try.func73, Try.ntmps73
        go_wp2_with fail
        go_ret
        exact ⟨ret_bool H.out.symm, ((Below.refl _ _).alloc (Nat.le_refl _) _).alloc (by simp) _⟩
      · have d2 : decide ((p : Int) < (q : Int) + (d : Int)) = false := by simp; omega
        have H := Lib.hid (show decide (wi ⟨p, c, put⟩ ⟨q, d, qut⟩) = false by simp [wi]; omega)
        clear h1
        go_enter Try.func73, Try.ntmps73
        go_wp2_with fail
        go_ret
        exact ⟨ret_bool H.out.symm, ((Below.refl _ _).alloc (Nat.le_refl _) _).alloc (by simp) _⟩
    · have d1 : decide (q < p) = false := by simp; omega
      have H := Lib.hid (show decide (wi ⟨p, c, put⟩ ⟨q, d, qut⟩) = false by simp [wi]; omega)
      clear h1
      go_enter Try.func73, Try.ntmps73
      go_wp2_with fail
      go_ret
      exact ⟨ret_bool H.out.symm, ((Below.refl _ _).alloc (Nat.le_refl _) _).alloc (by simp) _⟩
set_option maxRecDepth 100000 in
set_option maxHeartbeats 2000000 in
theorem clash_any (a b : Ed) (w : World) (ha : a.p ≤ 100000) (hac : a.c ≤ 100000) (hb : b.p ≤ 100000) (hc : b.c ≤ 100000) :
    Calls Try.prog 45 #[edv a, edv b] w fun z w' => z = .returned (.bool (decide (clash a b))) ∧ Below w.heap.size w w' := by
  obtain ⟨p, c, put⟩ := a
  obtain ⟨q, d, qut⟩ := b
  unfold edv
  simp only at ha hac hb hc
  obtain ⟨r, hr⟩ : ∃ r, decide (clash ⟨p, c, put⟩ ⟨q, d, qut⟩) = r := ⟨_, rfl⟩
  rw [hr]
  have HR := Lib.hid hr
  clear hr
  have N1 := Lib.hid (nothing_any ⟨p, c, put⟩)
  have N2 := Lib.hid (nothing_any ⟨q, d, qut⟩)
  have W1 := Lib.hid (fun w => within_any ⟨p, c, put⟩ ⟨q, d, qut⟩ w ha hb hc)
  have W2 := Lib.hid (fun w => within_any ⟨q, d, qut⟩ ⟨p, c, put⟩ w hb ha hac)
  have HCL : Hid (decide (clash ⟨p, c, put⟩ ⟨q, d, qut⟩) = (!decide (noth ⟨p, c, put⟩) && (!decide (noth ⟨q, d, qut⟩) && (decide (max p q < min (p + c) (q + d)) || (decide (wi ⟨p, c, put⟩ ⟨q, d, qut⟩) || decide (wi ⟨q, d, qut⟩ ⟨p, c, put⟩)))))) := Lib.hid (by
    rw [Bool.eq_iff_iff]; simp only [decide_eq_true_eq, Bool.and_eq_true, Bool.or_eq_true, Bool.not_eq_true', decide_eq_false_iff_not]; rfl)
  generalize decide (noth ⟨p, c, put⟩) = n1 at *
  generalize decide (noth ⟨q, d, qut⟩) = n2 at *
  generalize decide (wi ⟨p, c, put⟩ ⟨q, d, qut⟩) = b1 at *
  generalize decide (wi ⟨q, d, qut⟩ ⟨p, c, put⟩) = b2 at *
  obtain ⟨V, hV⟩ : ∃ V : World, V = (w.alloc (Obj.cells #[.int .i64 p, .int .i64 c, .string put] 38)).alloc (Obj.cells #[.int .i64 q, .int .i64 d, .string qut] 38) := ⟨_, rfl⟩
  have hz : V.heap.size = w.heap.size + 1 + 1 := by rw [hV]; simp
  have hA : V.cell? ⟨w.heap.size, 0, none⟩ = some (.int .i64 p) ∧ V.cell? ⟨w.heap.size, 1, none⟩ = some (.int .i64 c) ∧ V.cell? ⟨w.heap.size, 2, none⟩ = some (.string put) := by rw [hV]; simp [go_sem]
  have hB : V.cell? ⟨w.heap.size + 1, 0, none⟩ = some (.int .i64 q) ∧ V.cell? ⟨w.heap.size + 1, 1, none⟩ = some (.int .i64 d) ∧ V.cell? ⟨w.heap.size + 1, 2, none⟩ = some (.string qut) := by rw [hV]; simp [go_sem]
  have hK : Below w.heap.size w V := by rw [hV]; exact ((Below.refl _ _).alloc (Nat.le_refl _) _).alloc (by simp) _
  have HV := Lib.hid hV
  have HA := Lib.hid hA
  have HB := Lib.hid hB
  clear hV hA hB
  go_enter Try.func45, Try.ntmps45
  go_wp2_with fail
  rw [← HV.out]
  refine (N1.out _).mono ?_
  rintro e w1 ⟨rfl, hb1⟩
  obtain ⟨A0, A1, A2⟩ := three_below hb1 (by omega) HA.out
  have HB1 := Lib.hid (three_below hb1 (by omega) HB.out)
  have k1 := bstep hK hb1
  have hz1 : w.heap.size + 1 < w1.heap.size := by have := hb1.size; omega
  clear HA HB hb1 HV hK hz
  cases n1
  · obtain ⟨B0, B1, B2⟩ := HB1.out
    go_wp2_with fail
    refine (N2.out _).mono ?_
    rintro e w2 ⟨rfl, hb2⟩
    have HA2 := Lib.hid (three_below hb2 (by omega) ⟨A0, A1, A2⟩)
    have HB2 := Lib.hid (three_below hb2 (by omega) ⟨B0, B1, B2⟩)
    have k2 := bstep k1 hb2
    have hz2 : w.heap.size + 1 < w2.heap.size := by have := hb2.size; omega
    clear A0 A1 A2 B0 B1 B2 hb2 HB1 k1 hz1
    obtain ⟨A0, A1, A2⟩ := HA2.out
    obtain ⟨B0, B1, B2⟩ := HB2.out
    cases n2
    · by_cases hmm : max p q < min (p + c) (q + d)
      · have HM := Lib.hid (show decide (max p q < min (p + c) (q + d)) = true by simp; omega)
        have g1 : p < p + c := by omega
        have g2 : p < q + d := by omega
        have g3 : q < p + c := by omega
        have g4 : q < q + d := by omega
        go_wp2_with fail
        all_goals
          go_ret
          exact ⟨ret_bool (by rw [← HR.out, HCL.out, HM.out]; rfl), k2⟩
      · have HM := Lib.hid (show decide (max p q < min (p + c) (q + d)) = false by simp; omega)
        have hmi : ¬ (max p q < min (p + c) (q + d)) := hmm
        go_wp2_with fail
        all_goals
          refine (W1.out _).mono ?_
          rintro e w3 ⟨rfl, hb3⟩
          obtain ⟨A0', A1', A2'⟩ := three_below hb3 (by omega) ⟨A0, A1, A2⟩
          obtain ⟨B0', B1', B2'⟩ := three_below hb3 (by omega) ⟨B0, B1, B2⟩
          have k3 := bstep k2 hb3
          clear A0 A1 A2 B0 B1 B2 hb3 k2 HA2 HB2
          cases b1
          · go_wp2_with fail
            refine (W2.out _).mono ?_
            rintro e w4 ⟨rfl, hb4⟩
            have k4 := bstep k3 hb4
            go_wp2_with fail
            go_ret
            exact ⟨ret_bool (by rw [← HR.out, HCL.out, HM.out, decide_eq_false (by omega)]; rfl), k4⟩
          · go_wp2_with fail
            go_ret
            exact ⟨ret_bool (by rw [← HR.out, HCL.out, HM.out]; rfl), k3⟩
    · go_wp2_with fail
      go_ret
      exact ⟨ret_bool (by rw [← HR.out, HCL.out]; rfl), k2⟩
  · obtain ⟨B0, B1, B2⟩ := HB1.out
    go_wp2_with fail
    go_ret
    exact ⟨ret_bool (by rw [← HR.out, HCL.out]; rfl), k1⟩
end Go.Proofs.Ytincfcjiodooiaa
