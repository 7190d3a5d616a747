/-
  Plain: the words of a text behind an edit, by those of the text ahead of it.
-/
import Derived.Test.YtpgjjnbepkofdaaWrdQ
namespace Go.Proofs.Ytpgjjnbepkofdaa
set_option linter.unusedVariables false

/-- A text is cut where no word stands across. -/
theorem wds_cut (A C : List UInt8) (p : Nat) (h : A = [] ∨ C = [] ∨ (∃ A' c, A = A' ++ [c] ∧ partB c = false) ∨ ∃ c C', C = c :: C' ∧ partB c = false) : wdsA (A ++ C) [] p = wdsA A [] p ++ wdsA C [] (p + A.length) := by
  rcases h with rfl | rfl | ⟨A', c, rfl, hc⟩ | ⟨c, C', rfl, hc⟩
  · simp [wdsA, emit_nil]
  · simp [wdsA, emit_nil]
  · rw [List.append_assoc, List.singleton_append, wdsA_sep _ _ _ _ _ hc, wdsA_sep _ _ _ _ _ hc]
    simp only [List.length_nil, List.length_append, List.length_singleton, List.append_assoc]
    have : wdsA ([] : List UInt8) [] (p + 0 + A'.length + 1) = [] := by rw [wdsA, emit_nil]
    rw [this, List.nil_append, show p + 0 + A'.length + 1 = p + (A'.length + 1) by omega]
  · have h2 : wdsA (c :: C') [] (p + A.length) = wdsA C' [] (p + A.length + 1) := by
      rw [wdsA, hc, emit_nil]; simp
    rw [wdsA_sep _ _ _ _ _ hc, h2, List.length_nil]
    rfl
/-- How far words go that touch a part. -/
structure AroundOk (L : List UInt8) (p q lo hi : Nat) : Prop where
  l1 : lo ≤ p
  l2 : p ≤ q
  h1 : q ≤ hi
  h2 : hi ≤ L.length
  lo_ : lo = 0 ∨ ∀ c, L[lo - 1]? = some c → partB c = false
  hi_ : hi = L.length ∨ ∀ c, L[hi]? = some c → partB c = false
theorem cut_left {L : List UInt8} {lo : Nat} (hl : lo ≤ L.length) (h : lo = 0 ∨ ∀ c, L[lo - 1]? = some c → partB c = false) : L.take lo = [] ∨ ∃ A' c, L.take lo = A' ++ [c] ∧ partB c = false := by
  rcases Nat.eq_zero_or_pos lo with rfl | hp
  · exact .inl rfl
  · refine .inr ?_
    rcases h with h | h
    · omega
    · obtain ⟨m, rfl⟩ : ∃ m, lo = m + 1 := ⟨lo - 1, by omega⟩
      refine ⟨L.take m, L[m]'(by omega), List.take_succ_eq_append_getElem (by omega), h _ ?_⟩
      rw [Nat.add_sub_cancel, List.getElem?_eq_getElem (by omega)]
theorem cut_right {L : List UInt8} {hi : Nat} (hl : hi ≤ L.length) (h : hi = L.length ∨ ∀ c, L[hi]? = some c → partB c = false) : L.drop hi = [] ∨ ∃ c C', L.drop hi = c :: C' ∧ partB c = false := by
  rcases Nat.lt_or_ge hi L.length with hp | hp
  · refine .inr ⟨L[hi], L.drop (hi + 1), List.drop_eq_getElem_cons hp, ?_⟩
    rcases h with h | h
    · omega
    · exact h _ (List.getElem?_eq_getElem hp)
  · exact .inl (List.drop_eq_nil_of_le hp)
/-- Three parts. -/
theorem wds_three (A B C : List UInt8) (hA : A = [] ∨ ∃ A' c, A = A' ++ [c] ∧ partB c = false) (hC : C = [] ∨ ∃ c C', C = c :: C' ∧ partB c = false) :
    wdsA (A ++ (B ++ C)) [] 0 = wdsA A [] 0 ++ (wdsA B [] A.length ++ wdsA C [] (A.length + B.length)) := by
  rw [wds_cut A (B ++ C) 0 (by
    rcases hA with h | h
    · exact .inl h
    · exact .inr (.inr (.inl h))), wds_cut B C _ (by
    rcases hC with h | h
    · exact .inr (.inl h)
    · exact .inr (.inr (.inr h)))]
  simp
/-- What of a word's places stays, and where. -/
def noteZ (lo hi : Nat) (dd : Int) (zs : List Int) : List Int := zs.filterMap fun z => if z < (lo : Int) then some z else if (hi : Int) ≤ z then some (z + dd) else none
theorem noteZ_append (lo hi : Nat) (dd : Int) (a b : List Int) : noteZ lo hi dd (a ++ b) = noteZ lo hi dd a ++ noteZ lo hi dd b := List.filterMap_append ..
theorem noteZ_low (lo hi : Nat) (dd : Int) (zs : List Int) (h : ∀ z ∈ zs, z < (lo : Int)) : noteZ lo hi dd zs = zs := by
  unfold noteZ
  induction zs with
  | nil => rfl
  | cons z t ih =>
    rw [List.filterMap_cons, if_pos (h z (by simp))]
    simp only
    rw [ih fun y hy => h y (by simp [hy])]
theorem noteZ_mid (lo hi : Nat) (dd : Int) (zs : List Int) (h : ∀ z ∈ zs, (lo : Int) ≤ z ∧ z < (hi : Int)) : noteZ lo hi dd zs = [] := by
  unfold noteZ
  induction zs with
  | nil => rfl
  | cons z t ih =>
    have := h z (by simp)
    rw [List.filterMap_cons, if_neg (by omega), if_neg (by omega)]
    simp only
    exact ih fun y hy => h y (by simp [hy])
theorem noteZ_high (lo hi : Nat) (dd : Int) (zs : List Int) (hlh : lo ≤ hi) (h : ∀ z ∈ zs, (hi : Int) ≤ z) : noteZ lo hi dd zs = zs.map (fun z => z + dd) := by
  unfold noteZ
  induction zs with
  | nil => rfl
  | cons z t ih =>
    have := h z (by simp)
    rw [List.filterMap_cons, if_neg (by omega), if_pos this]
    simp only [List.map_cons]
    rw [ih fun y hy => h y (by simp [hy])]
theorem wds_high (L cur : List UInt8) (p : Nat) : ∀ x ∈ wdsA L cur p, x.2 < p + cur.length + L.length := by
  induction L generalizing cur p with
  | nil =>
    intro x hx
    unfold wdsA emit at hx
    split at hx
    · rename_i h
      rw [List.mem_singleton.1 hx]
      have := List.length_pos_iff.2 h.1
      simp; omega
    · cases hx
  | cons c t ih =>
    intro x hx
    rw [wdsA] at hx
    split at hx
    · have := ih _ _ x hx
      simp at this ⊢; omega
    · rcases List.mem_append.1 hx with hx | hx
      · have := (emit_at _ _ x hx).1
        simp; omega
      · have := ih _ _ x hx
        simp at this ⊢; omega
theorem places_in {ws : List (List UInt8 × Nat)} {k : List UInt8} {z : Int} (h : z ∈ placesOf ws k) : ∃ x ∈ ws, z = (x.2 : Int) := by
  unfold placesOf at h
  obtain ⟨x, hx, rfl⟩ := List.mem_map.1 h
  exact ⟨x, (List.mem_filter.1 hx).1, rfl⟩
/-- WHAT AN UPDATE GATHERS IS, IN ORDER, WHAT STANDS IN THE NEW TEXT. -/
theorem update_perm (L M : List UInt8) (p q lo hi hj : Nat) (h : AroundOk L p q lo hi) (hM : M = L.take lo ++ ((M.take hj).drop lo ++ L.drop hi)) (hj1 : lo ≤ hj) (hj2 : hj ≤ M.length) (k : List UInt8) :
    (noteZ lo hi ((hj : Int) - (hi : Int)) (placesOf (wdsA L [] 0) k) ++ placesOf (wdsA ((M.take hj).drop lo) [] lo) k).Perm (placesOf (wdsA M [] 0) k) := by
  have hlh : lo ≤ hi := by have := h.l1; have := h.l2; have := h.h1; omega
  have hA := cut_left (by have := h.h2; omega) h.lo_
  have hC := cut_right h.h2 h.hi_
  have hLs : L = L.take lo ++ ((L.take hi).drop lo ++ L.drop hi) := by
    have : (L.take hi).drop lo ++ L.drop hi = L.drop lo := by
      have h3 := List.take_append_drop (hi - lo) (L.drop lo)
      rw [List.drop_drop, show lo + (hi - lo) = hi by omega] at h3
      rw [List.drop_take]
      exact h3
    rw [this, List.take_append_drop]
  have lA : (L.take lo).length = lo := by rw [List.length_take]; have := h.h2; omega
  have lB : ((L.take hi).drop lo).length = hi - lo := by rw [List.length_drop, List.length_take]; have := h.h2; omega
  have lB' : ((M.take hj).drop lo).length = hj - lo := by rw [List.length_drop, List.length_take]; omega
  have e1 : wdsA L [] 0 = wdsA (L.take lo) [] 0 ++ (wdsA ((L.take hi).drop lo) [] lo ++ wdsA (L.drop hi) [] hi) := by
    have := wds_three (L.take lo) ((L.take hi).drop lo) (L.drop hi) hA hC
    rw [← hLs, lA, lB, show lo + (hi - lo) = hi by omega] at this
    exact this
  have e2 : wdsA M [] 0 = wdsA (L.take lo) [] 0 ++ (wdsA ((M.take hj).drop lo) [] lo ++ wdsA (L.drop hi) [] hj) := by
    have := wds_three (L.take lo) ((M.take hj).drop lo) (L.drop hi) hA hC
    rw [← hM, lA, lB', show lo + (hj - lo) = hj by omega] at this
    exact this
  rw [e1, e2]
  simp only [placesOf_append, noteZ_append]
  rw [noteZ_low _ _ _ _ (fun z hz => by
    obtain ⟨x, hx, rfl⟩ := places_in hz
    have := wds_high _ _ _ x hx
    rw [lA] at this
    simp at this
    omega), noteZ_mid _ _ _ _ (fun z hz => by
    obtain ⟨x, hx, rfl⟩ := places_in hz
    have h1 := wds_high _ _ _ x hx
    have h2 := wds_low _ _ _ x hx
    rw [lB] at h1
    simp at h1
    omega), noteZ_high _ _ _ _ hlh (fun z hz => by
    obtain ⟨x, hx, rfl⟩ := places_in hz
    have h2 := wds_low _ _ _ x hx
    omega)]
  have e3 : (placesOf (wdsA (L.drop hi) [] hi) k).map (fun z => z + ((hj : Int) - (hi : Int))) = placesOf (wdsA (L.drop hi) [] hj) k := by
    have s1 := wds_shift (L.drop hi) [] 0 hi
    have s2 := wds_shift (L.drop hi) [] 0 hj
    rw [Nat.zero_add] at s1 s2
    rw [s1, s2, placesOf_shift, placesOf_shift, List.map_map]
    refine List.map_congr_left fun z _ => ?_
    simp only [Function.comp]
    omega
  rw [e3, List.nil_append, List.append_assoc]
  exact List.Perm.append_left _ List.perm_append_comm
/-- Pairs that were noted, as a table. -/
def noteP (D : List (List UInt8 × Int)) (s : ByteArray) : List Int := (D.filter (fun x => x.1 == s.data.toList)).map (fun x => x.2)
theorem noteP_append (a b : List (List UInt8 × Int)) (s : ByteArray) : noteP (a ++ b) s = noteP a s ++ noteP b s := by
  unfold noteP
  rw [List.filter_append, List.map_append]
theorem wds_count (L cur : List UInt8) (p : Nat) : (wdsA L cur p).length ≤ L.length + 1 := by
  have e1 : ∀ (c : List UInt8) (p : Nat), (emit c p).length ≤ 1 := fun c p => by unfold emit; split <;> simp
  induction L generalizing cur p with
  | nil => exact Nat.le_trans (e1 _ _) (by simp)
  | cons c t ih =>
    rw [wdsA]
    split
    · have := ih (cur ++ [c]) p
      simp; omega
    · rw [List.length_append]
      have := ih [] (p + cur.length + 1)
      have := e1 cur p
      simp; omega
/-- No more places than words. -/
theorem places_sum (ks : List (List UInt8)) (ws : List (List UInt8 × Nat)) (h : ks.Nodup) : (ks.map (fun k => (placesOf ws k).length)).sum ≤ ws.length := by
  induction ks generalizing ws with
  | nil => simp
  | cons k t ih =>
    obtain ⟨h1, h2⟩ := List.nodup_cons.1 h
    have i1 := ih (ws.filter (fun x => !(x.1 == k))) h2
    have e : t.map (fun k' => (placesOf (ws.filter (fun x => !(x.1 == k))) k').length) = t.map (fun k' => (placesOf ws k').length) := by
      refine List.map_congr_left fun k' hk' => ?_
      unfold placesOf
      rw [List.length_map, List.length_map, List.filter_filter]
      congr 1
      refine List.filter_congr fun x _ => ?_
      by_cases hx : x.1 = k'
      · have : ¬ x.1 = k := fun e => h1 (by rw [← e, hx]; exact hk')
        simp [hx, show ¬ k' = k from fun e => this (hx.trans e)]
      · simp [hx]
    rw [e] at i1
    rw [List.map_cons, List.sum_cons]
    have i2 : (placesOf ws k).length = (ws.filter (fun x => x.1 == k)).length := by unfold placesOf; rw [List.length_map]
    have i3 : ∀ m : List (List UInt8 × Nat), m.length = (m.filter (fun x => x.1 == k)).length + (m.filter (fun x => !(x.1 == k))).length := fun m => by
      induction m with
      | nil => rfl
      | cons y t ih2 =>
        rw [List.filter_cons, List.filter_cons, List.length_cons]
        cases (y.1 == k) <;> simp <;> omega
    have i4 := i3 ws
    omega
/-- What is noted of words: each with each of its places. -/
def noteL (lo hi : Nat) (dd : Int) (l : List (List UInt8 × List Int)) : List (List UInt8 × Int) := l.flatMap fun x => (noteZ lo hi dd x.2).map fun z => (x.1, z)
theorem noteL_append (lo hi : Nat) (dd : Int) (a b : List (List UInt8 × List Int)) : noteL lo hi dd (a ++ b) = noteL lo hi dd a ++ noteL lo hi dd b := by simp [noteL]
theorem noteL_len (lo hi : Nat) (dd : Int) (l : List (List UInt8 × List Int)) : (noteL lo hi dd l).length ≤ (l.map (fun x => x.2.length)).sum := by
  induction l with
  | nil => simp [noteL]
  | cons x t ih =>
    have : noteL lo hi dd (x :: t) = (noteZ lo hi dd x.2).map (fun z => (x.1, z)) ++ noteL lo hi dd t := by simp [noteL]
    rw [this, List.length_append, List.length_map, List.map_cons, List.sum_cons]
    have h2 : (noteZ lo hi dd x.2).length ≤ x.2.length := List.length_filterMap_le _ _
    omega
/-- .. and what that makes of the table. -/
theorem noteL_table (lo hi : Nat) (dd : Int) (l : List (List UInt8 × List Int)) (ws : List (List UInt8 × Nat)) (hn : (l.map (fun x => x.1)).Nodup) (hat : ∀ x ∈ l, x.2 = placesOf ws x.1) (s : ByteArray) (hs : s.data.toList ∉ l.map (fun x => x.1) → placesOf ws s.data.toList = []) :
    noteP (noteL lo hi dd l) s = noteZ lo hi dd (placesOf ws s.data.toList) := by
  have one : ∀ (k : List UInt8) (zs : List Int), noteP (zs.map fun z => (k, z)) s = if k = s.data.toList then zs else [] := fun k zs => by
    unfold noteP
    induction zs with
    | nil => simp
    | cons z t ih3 =>
      rw [List.map_cons, List.filter_cons]
      by_cases h : k = s.data.toList
      · rw [if_pos (show ((k, z).1 == s.data.toList) = true by simp [h]), List.map_cons, ih3, if_pos h, if_pos h]
      · rw [if_neg (show ¬ ((k, z).1 == s.data.toList) = true by simp [h]), ih3, if_neg h, if_neg h]
  induction l with
  | nil => rw [hs (by simp)]; rfl
  | cons x t ih =>
    have e : noteL lo hi dd (x :: t) = (noteZ lo hi dd x.2).map (fun z => (x.1, z)) ++ noteL lo hi dd t := by simp [noteL]
    rw [List.map_cons] at hn
    obtain ⟨h1, h2⟩ := List.nodup_cons.1 hn
    rw [e, noteP_append, one]
    have non : ∀ (t : List (List UInt8 × List Int)), s.data.toList ∉ t.map (fun x => x.1) → noteP (noteL lo hi dd t) s = [] := fun t => by
      induction t with
      | nil => intro _; rfl
      | cons y t ih2 =>
        intro hy
        rw [List.map_cons, List.mem_cons, not_or] at hy
        have e : noteL lo hi dd (y :: t) = (noteZ lo hi dd y.2).map (fun z => (y.1, z)) ++ noteL lo hi dd t := by simp [noteL]
        rw [e, noteP_append, one, if_neg (fun e => hy.1 e.symm), ih2 hy.2]; rfl
    by_cases h : x.1 = s.data.toList
    · rw [if_pos h, non t (by rw [← h]; exact h1), List.append_nil, hat x (by simp), h]
    · rw [if_neg h, List.nil_append]
      refine ih h2 (fun y hy => hat y (by simp [hy])) (fun hm => hs ?_)
      rw [List.map_cons, List.mem_cons, not_or]
      exact ⟨fun e => h e.symm, hm⟩
theorem noteZ_one (lo hi : Nat) (dd z : Int) : noteZ lo hi dd [z] = if z < (lo : Int) then [z] else if (hi : Int) ≤ z then [z + dd] else [] := by
  unfold noteZ
  simp only [List.filterMap_cons, List.filterMap_nil]
  by_cases h1 : z < (lo : Int)
  · simp [h1]
  · by_cases h2 : (hi : Int) ≤ z
    · simp [h1, h2]
    · simp [h1, h2]
end Go.Proofs.Ytpgjjnbepkofdaa
