/-
  The walk of the law WordsFollow: whatever its input, it returns true and changes nothing that was there.
-/
import Derived.Test.YtpgjjnbepkofdaaWrdF
import Derived.Test.YtpgjjnbepkofdaaText
import Derived.Test.YtpgjjnbepkofdaaEdits
namespace Go.Proofs.Ytpgjjnbepkofdaa
open Go.RowKit
set_option linter.unusedVariables false
set_option linter.unusedSimpArgs false

theorem one_word {l : List WV} (h : WdsOk (fun s => placesOf (wordsOf ⟨#[97]⟩) s.data.toList) (l.map WV.k)) : l.length = 1 := by
  have h2 : WdsOk (fun s => placesOf (wordsOf ⟨#[97]⟩) s.data.toList) [[97]] := ⟨by simp, fun x => by
    have e : wordsOf ⟨#[97]⟩ = [([97], 0)] := by decide
    show _ ↔ _ ∧ placesOf (wordsOf ⟨#[97]⟩) x ≠ []
    rw [e, placesOf_one, List.mem_singleton]
    constructor
    · rintro rfl
      exact ⟨by decide, by simp⟩
    · rintro ⟨_, h⟩
      by_cases hx : [97] = x
      · exact hx.symm
      · rw [if_neg hx] at h
        exact absurd rfl h⟩
  have := congrArg List.length (h.unique h2)
  simpa using this
theorem rn_take (es : List Ed) (s : ByteArray) (k : Nat) (h : k < es.length) : rn s (es.take (k + 1)) = mk (rn s (es.take k)) es[k] := by
  rw [List.take_succ_eq_append_getElem h, rn_append]; rfl
theorem EdRow.one {w : World} {b o c : Nat} {es : List Ed} {k : Nat} (h : EdRow w (.slice (some ⟨b, o, none⟩) es.length c) es) (hk : k < es.length) :
    EdRow w (.slice (some ⟨b, o + k * 3, none⟩) 1 (c - k)) [es[k]] := by
  obtain ⟨A', c', hv, hl, hc, hr⟩ := h
  injection hv with h1 h2 h3
  subst h1; subst h3
  refine ⟨_, _, rfl, by simp; omega, by omega, ⟨rfl, fun _ => ?_⟩⟩
  obtain ⟨ad, ha, hb, hcell⟩ := hr.2 (by omega)
  injection ha with ha
  subst ha
  refine ⟨_, rfl, hb, fun j u hu => ?_⟩
  have hj : j < 3 := by have := (List.getElem?_eq_some_iff.1 hu).1; simpa [edCells] using this
  rw [add_plain]
  have h0 := hcell (k * 3 + j) u (by
    obtain ⟨e0, e1, e2⟩ := edCells_at es k hk
    have hj' : j = 0 ∨ j = 1 ∨ j = 2 := by omega
    rcases hj' with rfl | rfl | rfl
    · rw [Nat.add_zero, e0]; simpa [edCells] using hu
    · rw [e1]; simpa [edCells] using hu
    · rw [e2]; simpa [edCells] using hu)
  rw [add_plain, ← Nat.add_assoc] at h0
  exact h0


theorem vld_append (a b : List Ed) : ∀ n, vld n (a ++ b) → vld n a ∧ vld (sized n a) b := by
  induction a with
  | nil => intro n h; exact ⟨trivial, h⟩
  | cons e a ih =>
    intro n h
    obtain ⟨h1, h2, h3, h4⟩ := h
    obtain ⟨h5, h6⟩ := ih _ h4
    exact ⟨⟨h1, h2, h3, h5⟩, h6⟩
theorem vld_at (es : List Ed) (s : ByteArray) (k : Nat) (h : k < es.length) (hs : s.size ≤ 80) (hl : es.length ≤ 10) (ho : vld s.size es) :
    (rn s (es.take k)).size ≤ 160 ∧ es[k].p + es[k].c ≤ (rn s (es.take k)).size ∧ es[k].put.size ≤ 8 := by
  have h0 := ho
  rw [← List.take_append_drop k es] at h0
  obtain ⟨h1, h2⟩ := vld_append _ _ _ h0
  have htl : (es.take k).length ≤ 10 := by rw [List.length_take]; omega
  have hok := okr_of_vld _ _ h1 (by omega)
  rw [rn_size _ _ hok]
  have h3 := sized_le _ _ h1
  rw [List.drop_eq_getElem_cons h] at h2
  exact ⟨by omega, h2.1, h2.2.2.1⟩
theorem vld_end (es : List Ed) (s : ByteArray) (hs : s.size ≤ 80) (hl : es.length ≤ 10) (ho : vld s.size es) : (rn s es).size ≤ 160 := by
  have h3 := sized_le _ _ ho
  rw [rn_size _ _ (okr_of_vld _ _ ho (by omega))]
  omega
theorem WRd.of_post {w : World} {B : Nat} {v : Value} {l : List WV} (ho : w.ownsRow B 42 2 v l.length (cellsOf wvc l)) (hr : ∀ x ∈ l, w.ownsInts B 3 .i64 x.v x.at_) : WRd w v l :=
  ⟨CRow.of_own wvc_len ho, fun x hx => ints_row (hr x hx)⟩
theorem WordsAre.at_len {text : ByteArray} {l : List WV} (h : WordsAre text l) (ht : text.size ≤ 600) : ∀ x ∈ l, x.at_.length ≤ 1000 := fun x hx => by
  rw [h.at_ x hx]
  have h1 := places_sum [x.k] (wordsOf text) (by simp)
  have h2 : (wordsOf text).length ≤ text.data.toList.length + 1 := wds_count _ _ _
  have h3 : text.data.toList.length = text.size := by simp
  simp only [List.map_cons, List.map_nil, List.sum_cons, List.sum_nil] at h1
  omega
theorem WordsAre.of_map {text : ByteArray} {l l' : List WV} (h : WordsAre text l) (e : l'.map (fun x => (x.k, x.at_)) = l.map (fun x => (x.k, x.at_))) : WordsAre text l' := by
  have e1 : l'.map WV.k = l.map WV.k := by
    have := congrArg (List.map Prod.fst) e
    simpa [List.map_map, Function.comp_def] using this
  refine ⟨by rw [e1]; exact h.ok, fun x hx => ?_, ?_⟩
  · have : (x.k, x.at_) ∈ l.map (fun x => (x.k, x.at_)) := by rw [← e]; exact List.mem_map_of_mem hx
    obtain ⟨y, hy, he⟩ := List.mem_map.1 this
    simp only [Prod.mk.injEq] at he
    rw [← he.1, ← he.2]
    exact h.at_ y hy
  · have := congrArg List.length e
    simp only [List.length_map] at this
    rw [this]
    exact h.len

set_option maxRecDepth 100000 in
set_option maxHeartbeats 8000000 in
theorem wordsFollow_walk (w : World) (v0 : Value) (l0 : List Int) (h0 : Row .i64 w v0 l0) (v1 : Value) (cs : List Chg) (h1 : Chgs w v1 cs) :
    Calls Try.prog 8 #[v0, v1] w fun e w' => e = .returned (.bool true) ∧ Below w.heap.size w w' := by
  go_enter Try.func8, Try.ntmps8
  go_wp2_with fail
  refine (textOf_any v0 l0 80 _ h0 (by omega) (by omega)).mono ?_
  rintro e w1 ⟨s, rfl, es0, rfl⟩
  have ss := text_len _ _ _ es0; clear es0
  simp only [show Int.toNat 80 = 80 from rfl] at ss
  go_wp2_with fail
  refine (edits_any v1 cs 10 s.size _ h1 (by omega) (by omega)).mono ?_
  rintro e w1 ⟨ve, es, rfl, he, hv, hl, hb1⟩
  have HV := Lib.hid hv
  clear h0 h1 hv
  have HB1 := Lib.hid hb1
  have HE1 := Lib.hid he
  clear hb1 he
  go_wp2_with fail
  refine (words_all s _ (by omega)).mono ?_
  rintro e w2 ⟨v, l, rfl, ho, hr, hok, hat, hll, hb2⟩
  have HL2 := Lib.hid (WRd.of_post ho hr)
  have HW := Lib.hid (show WordsAre s l from ⟨hok, hat, hll⟩)
  have HE2 := Lib.hid (HE1.out.later hb2)
  have HB2 := Lib.hid (bstep HB1.out hb2)
  clear ho hr hok hat hll hb2 HB1 HE1
  go_wp2_with fail
  refine (words_all ⟨#[97]⟩ w2 (by decide)).mono ?_
  rintro e w3 ⟨v2, l2, rfl, ho2, hr2, hok2, _, _, hb3⟩
  have hone := one_word hok2
  obtain ⟨A2, c2, rfl, hc21, hc22⟩ := own_slice ho2
  rw [hone]
  have HL3 := Lib.hid (HL2.out.later hb3)
  have HE3 := Lib.hid (HE2.out.later hb3)
  have HB3 := Lib.hid (bstep HB2.out hb3)
  clear ho2 hr2 hok2 hb3 hone HL2 HE2 HB2 hc21
  obtain ⟨Ae, ce, rfl, hce1, hce2, hre⟩ := id HE3.out
  have HRE := Lib.hid hre
  clear hre
  go_wp2_with fail
  go_loopw [5, 7, 11] (fun t x i W => ∃ (k : Nat) (m : List WV), k ≤ es.length ∧ i = .int .i64 (k : Int) ∧ t = .string (rn s (es.take k)) ∧ WRd W x m ∧ WordsAre (rn s (es.take k)) m ∧ Below w3.heap.size w3 W) (fun _ _ i _ => es.length - (intOf i).toNat)
  case atStart => exact ⟨0, l, Nat.zero_le _, rfl, rfl, HL3.out, HW.out, Below.refl _ _⟩
  case round =>
    obtain ⟨k, m, hk, rfl, rfl, hm, hwm, hbel⟩ := hrel
    have HM := Lib.hid hm
    have HWM := Lib.hid hwm
    have HBE := Lib.hid hbel
    have HEW := Lib.hid (HE3.out.later hbel)
    clear hm hwm hbel
    rcases Nat.lt_or_ge k es.length with hlt | hge
    · have k1 : (k : Int) < (es.length : Int) := by omega
      have k2 : (0 : Int) ≤ (k : Int) := by omega
      obtain ⟨o1, o2, hput⟩ := vld_at es s k hlt ss hl HV.out
      have HR := Lib.hid (rn_take es s k hlt)
      generalize rn s (es.take k) = t at *
      obtain ⟨b0, o0, rfl, hab, x0, x1, x2⟩ := EdRow.at_ (HRE.out.below HBE.out) hlt
      have hab := Nat.lt_of_lt_of_le hab HBE.out.size
      have hone := Lib.hid (fun W (hW : Below wr.heap.size wr W) => EdRow.one (HEW.out.later hW) hlt)
      generalize es[k] = ed at *
      have C1 := Lib.hid (fun W (hW : Below wr.heap.size wr W) => copiedW_any _ m W (HM.out.later hW) HWM.out.len (HWM.out.at_len (by omega)))
      have U1 := Lib.hid (fun v l W (h : WRd W v l) (e : l.map (fun x => (x.k, x.at_)) = m.map (fun x => (x.k, x.at_))) => update_any t ed v l W h (HWM.out.of_map e) (by omega) o2 (by omega))
      go_wp2_with fail
      refine wp_region_ph [([0, 1, 3, 4, 5, 6], [2, 7]), ([8, 9, 10, 11, 12], [])] (fun w' => Below wr.heap.size wr w') (by kernel_rfl) (by kernel_rfl) (fun _ _ h1 h2 => bstep h1 h2) (Below.refl _ _) ?_
      intro ι F hne hF W0 hW0 _
      have x0F : ∀ i, (F i).cell? ⟨b0, o0 + k * 3, none⟩ = some (.int .i64 (ed.p : Int)) := fun i => ((hF i).cell (p := ⟨b0, _, none⟩) hab).trans x0
      have x1F : ∀ i, (F i).cell? ⟨b0, o0 + k * 3 + 1, none⟩ = some (.int .i64 (ed.c : Int)) := fun i => ((hF i).cell (p := ⟨b0, _, none⟩) hab).trans x1
      have x2F : ∀ i, (F i).cell? ⟨b0, o0 + k * 3 + 2, none⟩ = some (.string ed.put) := fun i => ((hF i).cell (p := ⟨b0, _, none⟩) hab).trans x2
      (refine wpPh_cons ?_; simp only [pickOps, List.getElem?_cons_succ, List.getElem?_cons_zero])
      repeat (refine wpB_step (fun K hK => ?_); go_simp; first | (refine hK _ ?_; clear hK K) | (apply Exists.intro; refine ⟨fun _ => ?_, hK _ ?_⟩; (fail); clear hK K))
      refine wpB_nil ?_
      intro w4 hw4 hI4
      clear x0F x1F x2F x0 x1 x2
      refine wpRB_step (fun K hK => ?_)
      go_simp
      refine (C1.out _ hI4).mono ?_
      rintro e w5 ⟨v5, m5, rfl, hm5, em5, hb5⟩
      refine ⟨_, rfl, hK _ _ ⟨bstep hI4 hb5, ?_⟩⟩
      clear hK K
      intro w6 hw6 hI6
      have hm6 := hm5.later hw6
      refine wpRB_step (fun K hK => ?_)
      go_simp
      refine (U1.out _ _ _ hm6 em5).mono ?_
      rintro e w7 ⟨v7, l7, rfl, ho7, hr7, hok7, hat7, hll7, hb7⟩
      refine ⟨_, rfl, hK _ _ ⟨bstep hI6 hb7, ?_⟩⟩
      clear hK K
      have hm7 := WRd.of_post ho7 hr7
      have hw7 : WordsAre (mk t ed) l7 := ⟨hok7, hat7, hll7⟩
      intro w8 hw8 hI8
      have hm8 := hm7.later hw8
      clear ho7 hr7 hok7 hat7 hll7 hm7 hm6 hm5 em5
      refine wpRB_nil ?_
      (refine wpPh_cons ?_; simp only [pickOps, List.getElem?_cons_succ, List.getElem?_cons_zero])
      repeat (refine wpB_step (fun K hK => ?_); go_simp; first | (refine hK _ ?_; clear hK K) | (apply Exists.intro; refine ⟨fun _ => ?_, hK _ ?_⟩; (fail); clear hK K))
      refine wpB_nil ?_
      intro w9 hw9 hI9
      have HM9 := Lib.hid (hm8.later hw9)
      have HI9 := Lib.hid hI9
      have HW9 := Lib.hid hw7
      refine wpRB_nil ?_
      refine wpPh_nil ?_
      clear hW0 hw4 hI4 hb5 hw6 hI6 hb7 hw8 hI8 hm8 hw9 hI9 hw7 hF
      have ho9 := hone.out _ HI9.out
      go_wp2_with fail
      refine (apply_any t _ [ed] _ ho9 (by omega) (show 1 ≤ 60 by omega) (by intro e he; simp at he; subst he; omega) ⟨o2, by omega, trivial⟩).mono ?_
      rintro e wa ⟨rfl, hba⟩
      have HMA := Lib.hid (HM9.out.later hba)
      have HBA := Lib.hid (bstep HBE.out (bstep HI9.out hba))
      have hmk : rn t [ed] = rn s (es.take (k + 1)) := by rw [HR.out]; rfl
      rw [hmk]
      have HWA := Lib.hid (show WordsAre (rn s (es.take (k + 1))) l7 by rw [HR.out]; exact HW9.out)
      clear ho9 hba hmk
      go_wp2_with fail
      exact ⟨⟨k + 1, l7, hlt, by go_num, rfl, HMA.out, HWA.out, HBA.out⟩, by simp [intOf]; omega⟩
    · have k1 : decide ((k : Int) < (es.length : Int)) = false := decide_eq_false (by omega)
      have HK := Lib.hid (show es.take k = es by rw [List.take_of_length_le (by omega)])
      have hsz := vld_end es s ss hl HV.out
      rw [HK.out] at HWM ⊢
      generalize rn s es = t at *
      go_wp2_with fail
      refine (words_all t _ (by omega)).mono ?_
      rintro e w4 ⟨vz, lz, rfl, ho, hr, hok, hat, hll, hb4⟩
      have hsame := WordsAre.same HWM.out ⟨hok, hat, hll⟩
      have hz := WRd.of_post ho hr
      have hm4 := HM.out.later hb4
      have S := Lib.hid (fun W (hW : Below w4.heap.size w4 W) => sameW_any _ vz m lz W (hm4.later hW) (hz.later hW) HWM.out.len hsame)
      have HB4 := Lib.hid (bstep HB3.out (bstep HBE.out hb4))
      clear ho hr hok hat hll hb4 hsame hz hm4
      go_wp2_with fail
      refine (S.out _ (Below.refl _ _)).mono ?_
      rintro e w9 ⟨rfl, hb9⟩
      have HB9 := Lib.hid (bstep HB4.out hb9)
      clear hb9 S
      go_wp2_with fail
      go_ret
      exact ⟨rfl, HB9.out⟩
end Go.Proofs.Ytpgjjnbepkofdaa
