/-
  The walks of rope.New and Split.
-/
import Derived.Test.YtddbhoilhapljaaRopeJ
namespace Go.Proofs.Ytddbhoilhapljaa
open Go.RowKit
set_option linter.unusedVariables false

/-- How deep a rope is that is made of so many bytes. -/
def isD (n d : Nat) : Prop := 1 ≤ d ∧ n ≤ 8 * 2 ^ (d - 1) ∧ (d = 1 ∨ 8 * 2 ^ (d - 2) < n)
theorem isD_two (n m d1 d2 : Nat) (hm : m = n / 2) (hn : 9 ≤ n) (h1 : isD m d1) (h2 : isD (n - m) d2) : d1 ≤ d2 ∧ d2 ≤ d1 + 1 ∧ isD n (d2 + 1) := by
  obtain ⟨a1, a2, a3⟩ := h1
  obtain ⟨b1, b2, b3⟩ := h2
  have hle : d1 ≤ d2 := by
    rcases Nat.lt_or_ge d2 d1 with h | h
    · exfalso
      rcases a3 with a3 | a3
      · omega
      · have := Nat.pow_le_pow_right (n := 2) (by decide) (show d2 - 1 ≤ d1 - 2 by omega)
        omega
    · exact h
  have hge : d2 ≤ d1 + 1 := by
    rcases Nat.lt_or_ge (d1 + 1) d2 with h | h
    · exfalso
      rcases b3 with b3 | b3
      · omega
      · have h3 := Nat.pow_le_pow_right (n := 2) (by decide) (show d1 ≤ d2 - 2 by omega)
        have h4 : 2 ^ d1 = 2 ^ (d1 - 1) * 2 := by rw [← Nat.pow_succ]; congr 1; omega
        have h5 : 1 ≤ 2 ^ (d1 - 1) := Nat.one_le_two_pow
        omega
    · exact h
  refine ⟨hle, hge, by omega, ?_, .inr ?_⟩
  · have h4 : 2 ^ (d2 + 1 - 1) = 2 ^ (d2 - 1) * 2 := by rw [← Nat.pow_succ]; congr 1; omega
    omega
  · rcases b3 with b3 | b3
    · subst b3
      show 8 * 2 ^ 0 < n
      omega
    · by_cases hd : d2 = 1
      · subst hd
        show 8 * 2 ^ 0 < n
        omega
      · have h4 : 2 ^ (d2 + 1 - 2) = 2 ^ (d2 - 2) * 2 := by rw [← Nat.pow_succ]; congr 1; omega
        omega
def NewPost (s : ByteArray) (w : World) (e : Ending) (w' : World) : Prop := ∃ g t, e = .returned (.pointer (some ⟨g, 0, none⟩)) ∧ RT w' g t ∧ t.ok ∧ t.tx = s.data.toList ∧ isD s.size t.dp ∧ Below w.heap.size w w'
theorem ext_sizes (s : ByteArray) (m : Nat) (h : m ≤ s.size) : (s.extract 0 m).size = m ∧ (s.extract m s.size).size = s.size - m := by
  rw [ByteArray.size_extract, ByteArray.size_extract]; omega
theorem ext_tx (s : ByteArray) (m : Nat) (h : m ≤ s.size) : (s.extract 0 m).data.toList = s.data.toList.take m ∧ (s.extract m s.size).data.toList = s.data.toList.drop m := by
  refine ⟨ext0_list s m, ?_⟩
  simp only [ByteArray.data_extract, Array.toList_extract, List.extract_eq_take_drop]
  rw [List.take_of_length_le]
  simp
set_option maxRecDepth 100000 in
set_option maxHeartbeats 4000000 in
theorem new_rec (k : Nat) : ∀ (s : ByteArray) (w : World), s.size ≤ k → 0 < s.size → s.size ≤ 600 → Calls Try.prog 107 #[.string s] w (NewPost s w) := by
  induction k with
  | zero => intro s w h1 h2; omega
  | succ k ih =>
    intro s w hk hp hs
    have hne : ¬ s = ⟨#[]⟩ := fun e => by subst e; exact absurd hp (by decide)
    have hnl := bytes_ne hne
    have hnl2 : ¬ s.toList = [] := fun e => hne (by rw [ByteArray.toList_eq] at e; exact bytes_ext e)
    have hnl3 : s.toList.isEmpty = false := by
      cases hh : s.toList with
      | nil => exact absurd hh hnl2
      | cons a l => rfl
    by_cases h8 : s.size ≤ 8
    · have h8i : (s.size : Int) ≤ 8 := by omega
      clear hne hnl ih
      go_enter Try.func107, Try.ntmps107
      go_wp2_with fail
      refine (leaf_any s w hs).mono ?_
      rintro e w1 ⟨g, rfl, hr, hb⟩
      have HR := Lib.hid hr
      have HB := Lib.hid hb
      clear hr hb
      go_wp2_with fail
      go_ret
      exact ⟨g, _, rfl, HR.out, hp, rfl, ⟨Nat.le_refl 1, h8, .inl rfl⟩, HB.out⟩
    · have h8i : ¬ (s.size : Int) ≤ 8 := by omega
      have h8d : decide ((s.size : Int) ≤ 8) = false := by rw [decide_eq_false_iff_not]; exact h8i
      obtain ⟨m, hm⟩ : ∃ m, m = s.size / 2 := ⟨_, rfl⟩
      have hmi : (s.size : Int) / 2 = (m : Int) := by omega
      have hml : m ≤ s.size := by omega
      obtain ⟨e1, e2⟩ := ext_sizes s m hml
      obtain ⟨x1, x2⟩ := ext_tx s m hml
      have I1 := Lib.hid (fun W => ih (s.extract 0 m) W (by omega) (by omega) (by omega))
      have I2 := Lib.hid (fun W => ih (s.extract m s.size) W (by omega) (by omega) (by omega))
      have hm0 : (0 : Int) ≤ (m : Int) := Int.natCast_nonneg _
      have hm1 : (m : Int) ≤ (s.size : Int) := by omega
      have hm9 : 9 ≤ s.size := by omega
      have X1 := Lib.hid x1
      have X2 := Lib.hid x2
      have E1 := Lib.hid e1
      have E2 := Lib.hid e2
      have HM := Lib.hid hm
      clear hne hnl ih x1 x2 e1 e2 hm
      go_enter Try.func107, Try.ntmps107
      go_wp2_with fail
      refine wp_region_ph [([0, 1, 2, 4, 5, 6], [3, 7, 8]), ([9], [])] (fun w' => Below w.heap.size w w') (by kernel_rfl) (by kernel_rfl) (fun _ _ h1 h2 => bstep h1 h2) (by repeat' (first | exact Below.refl _ _ | apply below_drewN)) ?_
      intro ι F hne hF W0 hW0 hI0
      (refine wpPh_cons ?_; simp only [pickOps, List.getElem?_cons_succ, List.getElem?_cons_zero])
      repeat (refine wpB_step (fun K hK => ?_); go_simp; first | (refine hK _ ?_; clear hK K) | (apply Exists.intro; refine ⟨fun _ => ?_, hK _ ?_⟩; (fail); clear hK K))
      refine wpB_nil ?_
      intro w3 hw3 hI3
      refine wpRB_step (fun K hK => ?_)
      go_simp
      refine (I1.out w3).mono ?_
      rintro e w4 ⟨g4, t4, rfl, hr4, ho4, hx4, hd4, hb4⟩
      refine ⟨_, rfl, hK _ _ ⟨bstep hI3 hb4, ?_⟩⟩
      clear hK K
      intro w5 hw5 hI5
      have hr5 := hr4.below hw5
      clear hr4 hb4 hw5 hw3 hI3
      refine wpRB_step (fun K hK => ?_)
      go_simp
      refine (I2.out w5).mono ?_
      rintro e w6 ⟨g6, t6, rfl, hr6, ho6, hx6, hd6, hb6⟩
      refine ⟨_, rfl, hK _ _ ⟨bstep hI5 hb6, ?_⟩⟩
      clear hK K
      intro w7 hw7 hI7
      have hr7 := hr6.below hw7
      have hq7 := (hr5.below hb6).below hw7
      rw [E1.out] at hd4
      rw [E2.out] at hd6
      obtain ⟨q1, q2, q3⟩ := isD_two s.size m t4.dp t6.dp HM.out hm9 hd4 hd6
      have hl4 : t4.tx.length = m := by rw [hx4, X1.out, List.length_take]; simp; omega
      have hl6 : t6.tx.length = s.size - m := by rw [hx6, X2.out, List.length_drop]; simp
      have d4 := t4.dp_le ho4
      have d6 := t6.dp_le ho6
      have HX : Hid ((T.node t4 t6).tx = s.data.toList) := Lib.hid (by
        show t4.tx ++ t6.tx = _
        rw [hx4, hx6, X1.out, X2.out, List.take_append_drop])
      have HOK : Hid ((T.node t4 t6).ok) := Lib.hid ⟨ho4, ho6, by omega, by omega⟩
      have HD : Hid (isD s.size (T.node t4 t6).dp) := Lib.hid (by
        have : (T.node t4 t6).dp = t6.dp + 1 := by simp only [T.dp]; omega
        rw [this]; exact q3)
      clear hr6 hb6 hw7 hr5 hI5 hd4 hd6 hx4 hx6 q3
      refine wpRB_step (fun K hK => ?_)
      go_simp
      refine (node_any g4 g6 t4 t6 w7 hq7 hr7 (by omega) (by omega) (by omega) (by omega)).mono ?_
      rintro e w8 ⟨g8, rfl, hr8, hb8⟩
      refine ⟨_, rfl, hK _ _ ⟨bstep hI7 hb8, ?_⟩⟩
      clear hK K
      intro w9 hw9 hI9
      have hr9 := hr8.below hw9
      clear hr8 hb8 hw9 hI7 hr7 hq7 ho4 ho6 hl4 hl6
      refine wpRB_nil ?_
      (refine wpPh_cons ?_; simp only [pickOps, List.getElem?_cons_succ, List.getElem?_cons_zero])
      repeat (refine wpB_step (fun K hK => ?_); go_simp; first | (refine hK _ ?_; clear hK K) | (apply Exists.intro; refine ⟨fun _ => ?_, hK _ ?_⟩; (fail); clear hK K))
      refine wpB_nil ?_
      intro w10 hw10 hI10
      have HR10 := Lib.hid (hr9.below hw10)
      have HI10 := Lib.hid hI10
      clear hr9 hw10 hI9
      refine wpRB_nil ?_
      refine wpPh_nil ?_
      clear hF hne F hI0 hW0 hI10
      go_wp2_with fail
      go_ret
      exact ⟨g8, _, rfl, HR10.out, HOK.out, HX.out, HD.out, HI10.out⟩
def NewO (l : List UInt8) (w : World) (e : Ending) (w' : World) : Prop := ∃ v o, e = .returned v ∧ RO w' v o ∧ ook o ∧ otx o = l ∧ Below w.heap.size w w'
set_option maxRecDepth 100000 in
theorem newRope_any (s : ByteArray) (w : World) (hs : s.size ≤ 600) : Calls Try.prog 107 #[.string s] w (NewO s.data.toList w) := by
  rcases Nat.eq_zero_or_pos s.size with h | h
  · have he : s = ⟨#[]⟩ := by apply bytes_ext; exact List.eq_nil_of_length_eq_zero (by simpa using h)
    subst he
    clear h hs
    go_enter Try.func107, Try.ntmps107
    go_wp2
    go_ret
    exact ⟨_, none, rfl, rfl, trivial, rfl, Below.refl _ _⟩
  · refine (new_rec _ s w (Nat.le_refl _) h hs).mono ?_
    rintro e w' ⟨g, t, rfl, hr, ho, hx, _, hb⟩
    exact ⟨_, some t, rfl, ⟨g, rfl, hr⟩, ho, hx, hb⟩
end Go.Proofs.Ytddbhoilhapljaa
