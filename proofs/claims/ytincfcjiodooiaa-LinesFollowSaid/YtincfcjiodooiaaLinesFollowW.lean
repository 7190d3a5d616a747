/-
  The walk of the law LinesFollow: whatever its input, it returns true and changes nothing that was there.
-/
import Derived.Test.YtincfcjiodooiaaFollow
import Derived.Test.YtincfcjiodooiaaOrdC
import Derived.Test.YtincfcjiodooiaaSame
namespace Go.Proofs.Ytincfcjiodooiaa
open Go.RowKit
set_option linter.unusedVariables false

theorem rn_take (es : List Ed) (s : ByteArray) (k : Nat) (h : k < es.length) : rn s (es.take (k + 1)) = mk (rn s (es.take k)) es[k] := by
  rw [List.take_succ_eq_append_getElem h, rn_append]; rfl
theorem okr_at (es : List Ed) (s : ByteArray) (k : Nat) (h : k < es.length) (h6 : s.size ≤ 600) (ho : okr s.size es) :
    (rn s (es.take k)).size ≤ 600 ∧ es[k].p + es[k].c ≤ (rn s (es.take k)).size ∧ (rn s (es.take k)).size + es[k].put.size - es[k].c ≤ 600 := by
  have h1 : okr s.size (es.take k) ∧ okr (sized s.size (es.take k)) (es.drop k) := by rw [← okr_append, List.take_append_drop]; exact ho
  have h2 := rn_size _ s h1.1
  have h3 := sized_600 _ _ h6 h1.1
  rw [List.drop_eq_getElem_cons h] at h1
  rw [h2]
  exact ⟨h3, h1.2.1, h1.2.2.1⟩

theorem EdRow.one {w : World} {b o c : Nat} {es : List Ed} {k : Nat} (h : EdRow w (.slice (some ⟨b, o, none⟩) es.length c) es) (hk : k < es.length) :
    EdRow w (.slice (some ⟨b, o + k * 3, none⟩) 1 (c - k)) [es[k]] := by
  obtain ⟨A', c', hv, hl, hc, hr⟩ := h
  injection hv with h1 h2 h3
  subst h1; subst h3
  refine ⟨_, _, rfl, by simp; omega, by omega, ⟨rfl, fun _ => ?_⟩⟩
  obtain ⟨ad, ha, hb, hcell⟩ := hr.2 (by omega)
  injection ha with ha
  subst ha
  refine ⟨_, rfl, hb, fun j u hu => ?_⟩
  have hj : j < 3 := by have := (List.getElem?_eq_some_iff.1 hu).1; simpa [edCells] using this
  rw [add_plain]
  have h0 := hcell (k * 3 + j) u (by
    obtain ⟨e0, e1, e2⟩ := edCells_at es k hk
    have hj' : j = 0 ∨ j = 1 ∨ j = 2 := by omega
    rcases hj' with rfl | rfl | rfl
    · rw [Nat.add_zero, e0]; simpa [edCells] using hu
    · rw [e1]; simpa [edCells] using hu
    · rw [e2]; simpa [edCells] using hu)
  rw [add_plain, ← Nat.add_assoc] at h0
  exact h0

set_option maxRecDepth 100000 in
set_option maxHeartbeats 4000000 in
theorem linesFollow_walk (w : World) (v0 : Value) (l : List Int) (h0 : Row .i64 w v0 l) (v1 : Value) (cs : List Chg) (h1 : Chgs w v1 cs) :
    Calls Try.prog 6 #[v0, v1] w fun e w' => e = .returned (.bool true) ∧ Below w.heap.size w w' := by
  go_enter Try.func6, Try.ntmps6
  go_wp2_with fail
  refine (textOf_any v0 l 100 _ h0 (by omega) (by omega)).mono ?_
  rintro e w1 ⟨s, rfl, es0, rfl⟩
  have ss := text_len _ _ _ es0; clear es0
  simp only [show Int.toNat 100 = 100 from rfl] at ss
  go_wp2_with fail
  refine (edits_any v1 cs 12 s.size _ h1 (by omega) (by omega)).mono ?_
  rintro e w1 ⟨ve, es, rfl, he, hv, hl, hb1⟩
  have ho := okr_of_vld es _ hv (by omega)
  have hp := vld_put600 es _ hv
  go_wp2_with fail
  refine (Starts_any s _ (by omega)).mono ?_
  rintro e w2 ⟨vl, rfl, hr, hb2⟩
  have kk := bstep hb1 hb2
  have he2 := he.later hb2
  clear h0 h1 he hb1 hb2 hv
  have hsl : 0 < (starts s.data.toList).length := by simp [starts]
  have hd1 : decide (((starts s.data.toList).length : Int) < 1) = false := by simp; omega
  have HO := Lib.hid ho
  have HP := Lib.hid hp
  have HS := Lib.hid (show starts s.data.toList = starts (rn s (es.take 0)).data.toList by simp [rn])
  clear ho hp
  obtain ⟨A, c, hvl, hlc, hc, hwf, hrd⟩ := id hr
  subst hvl
  go_wp2_with fail
  obtain ⟨wo, rfl⟩ : ∃ wo : World, wo = w2 := ⟨_, rfl⟩
  go_loopw [5, 7, 9] (fun t x i wr => ∃ k : Nat, k ≤ es.length ∧ i = .int .i64 k ∧ t = .string (rn s (es.take k)) ∧ Row .i64 wr x (starts (rn s (es.take k)).data.toList) ∧ Below wo.heap.size wo wr) (fun _ _ i _ => es.length - (intOf i).toNat)
  case atStart => exact ⟨0, Nat.zero_le _, rfl, rfl, hr, Below.refl _ _⟩
  case round =>
    obtain ⟨k, hk, rfl, rfl, hrow, hbel⟩ := hrel
    have hew := he2.later hbel
    obtain ⟨A2, c2, rfl, hlc2, hc2, hr2⟩ := id hew
    unfold maxLen at hc2
    by_cases hlt : k < es.length
    · obtain ⟨o1, o2, o3⟩ := okr_at es s k hlt (by omega) HO.out
      have hput := HP.out es[k] (List.getElem_mem hlt)
      have HR := Lib.hid (rn_take es s k hlt)
      have HU := Lib.hid (updated_starts (rn s (es.take k)) es[k] o2)
      generalize rn s (es.take k) = t at *
      obtain ⟨b0, o0, rfl, hab, x0, x1, x2⟩ := EdRow.at_ hr2 hlt
      obtain ⟨A7, c7, rfl, hl7, hc7, hw7, hr7⟩ := id hrow
      have hlen7 := starts_len t.data.toList
      have htl : t.data.toList.length = t.size := by simp
      rw [htl] at hlen7
      clear htl
      have HROW := Lib.hid hrow
      have UPD := Lib.hid (fun v W (h : Row .i64 W v (starts t.data.toList)) => update_any v (starts t.data.toList) t.size es[k] W h (asc_starts t o1) (by omega) (fun x hx => by
        simp only [starts, List.mem_cons] at hx
        rcases hx with rfl | hx
        · omega
        · have := nls_bd _ _ x hx; have e : t.data.toList.length = t.size := by simp
          omega) (starts_sorted _) (fun i => by have := starts_le t.data.toList i; have e : t.data.toList.length = t.size := by simp
                                                omega) o1 o2 (by omega))
      generalize starts t.data.toList = X at *
      clear hrow
      go_wp2_with fail
      refine wp_region_ph [([0, 2, 3, 4, 5, 6, 7], [1, 8]), ([9, 10, 11, 12, 13], [])] (fun w' => Below wr.heap.size wr w') (by kernel_rfl) (by kernel_rfl) (fun _ _ h1 h2 => bstep h1 h2) (Below.refl _ _) ?_
      intro ι F hne hF W0 hW0 _
      have x0F : ∀ i, (F i).cell? ⟨b0, o0 + k * 3, none⟩ = some (.int .i64 (es[k].p : Int)) := fun i => ((hF i).cell (p := ⟨b0, _, none⟩) hab).trans x0
      have x1F : ∀ i, (F i).cell? ⟨b0, o0 + k * 3 + 1, none⟩ = some (.int .i64 (es[k].c : Int)) := fun i => ((hF i).cell (p := ⟨b0, _, none⟩) hab).trans x1
      have x2F : ∀ i, (F i).cell? ⟨b0, o0 + k * 3 + 2, none⟩ = some (.string es[k].put) := fun i => ((hF i).cell (p := ⟨b0, _, none⟩) hab).trans x2
      have i0 : (0 : Int) ≤ (k : Int) := Int.natCast_nonneg _
      have i1 : (k : Int) < (es.length : Int) := by omega
      (refine wpPh_cons ?_; simp only [pickOps, List.getElem?_cons_succ, List.getElem?_cons_zero])
      repeat (refine wpB_step (fun K hK => ?_); go_simp; first | (refine hK _ ?_; clear hK K) | (apply Exists.intro; refine ⟨fun _ => ?_, hK _ ?_⟩; (fail); clear hK K))
      refine wpB_nil ?_
      intro w2 hw2 hI2
      clear x0F x1F x2F x0 x1 x2
      refine wpRB_copyInts rfl (.tmp 41) _ rfl 3 .i64 _ 8 Try.underlying22 int_info rfl _ X rfl (HROW.out.later hI2) (by omega) (by omega) ?_
      intro v3 w3 _ hr3 hb3
      refine ⟨bstep hI2 hb3, ?_⟩
      intro w4 hw4 hI4
      replace hr3 := hr3.later hw4
      refine wpRB_step (fun K hK => ?_)
      go_simp
      refine (UPD.out _ _ hr3).mono ?_
      rintro e w5 ⟨v5, rfl, hr5, hb5⟩
      refine ⟨_, rfl, hK _ _ ⟨bstep hI4 hb5, ?_⟩⟩
      clear hK K
      intro w6 hw6 hI6
      replace hr5 := hr5.later hw6
      rw [HU.out] at hr5
      refine wpRB_nil ?_
      (refine wpPh_cons ?_; simp only [pickOps, List.getElem?_cons_succ, List.getElem?_cons_zero])
      repeat (refine wpB_step (fun K hK => ?_); go_simp; first | (refine hK _ ?_; clear hK K) | (apply Exists.intro; refine ⟨fun _ => ?_, hK _ ?_⟩; (fail); clear hK K))
      refine wpB_nil ?_
      intro w7 hw7 hI7
      replace hr5 := hr5.later hw7
      refine wpRB_nil ?_
      refine wpPh_nil ?_
      clear hw2 hI2 hb3 hw4 hI4 hb5 hw6 hI6 hw7 hr3 hF
      have he7 := EdRow.later hew hI7
      have k7 := bstep hbel hI7
      have hone := EdRow.one he7 hlt
      go_wp2_with fail
      refine (apply_any t _ [es[k]] _ hone o1 (show 1 ≤ 60 by omega) (by intro e he; simp at he; subst he; exact hput) ⟨o2, o3, trivial⟩).mono ?_
      rintro e w8 ⟨rfl, hb8⟩
      replace hr5 := hr5.later hb8
      have k8 := bstep k7 hb8
      have hmk : rn t [es[k]] = rn s (es.take (k + 1)) := by rw [HR.out]; rfl
      rw [hmk]
      rw [← HR.out] at hr5
      clear he7 hone hb8 k7 hI7 hmk
      go_wp2_with fail
      go_roundw
      case rel => exact ⟨k + 1, by omega, by go_num, rfl, hr5, k8⟩
      case measure => simp [intOf]; omega
    · have HK := Lib.hid (show es.take k = es by rw [List.take_of_length_le (by omega)])
      rw [HK.out] at hrow ⊢
      have hsz := rn_size es s HO.out
      have h600 := sized_600 es _ (by omega) HO.out
      rw [← hsz] at h600
      clear hsz
      generalize rn s es = t at *
      go_wp2_with fail
      refine (Starts_any t _ h600).mono ?_
      rintro e w8 ⟨vz, rfl, hz, hb8⟩
      replace hrow := hrow.later hb8
      have k8 := bstep hbel hb8
      go_wp2_with fail
      refine (sameInts_any _ _ _ _ _ hrow hz).mono ?_
      rintro e w9 ⟨rfl, hb9⟩
      go_wp2_with fail
      go_ret
      exact ⟨ret_bool (by simp), bstep kk (bstep k8 hb9)⟩
end Go.Proofs.Ytincfcjiodooiaa
