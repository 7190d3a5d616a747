/-
  A table of words that is ranged over while its rows are sorted.
-/
import Derived.Test.YtpgjjnbepkofdaaWrdL
import Derived.Test.YtpgjjnbepkofdaaSortO
import Derived.Test.YtpgjjnbepkofdaaSort1
import Derived.Maps.RangeWalk
namespace Go.Proofs.Ytpgjjnbepkofdaa
open Go.RowKit Go.WideMaps Go.Maps Go.ChangeShapes Go.ChangeMaps
open Go.WideElems (Fit rg rd_val)
open Go.Sort Go.Shelf
set_option linter.unusedVariables false
set_option linter.unusedSimpArgs false

/-- In ascending order. -/
def ascI (xs : List Int) : List Int := xs.mergeSort fun x y => decide (x ≤ y)
theorem ascI_len (xs : List Int) : (ascI xs).length = xs.length := by unfold ascI; rw [List.length_mergeSort]
/-- An entry's element as it lies there. -/
def RV : Value → Option (DataW Value × List MemPlace) := fun v => some (.held v, [])
def IsDV (es : Array MapEntry) (D : DataW Value) : Prop := D = .map ((es.toList.map (rg Try.prog 9 RV)).foldr DataW.insert [])
/-- The entries of a table. -/
structure Ents (es : Array MapEntry) (clock b base n : Nat) (g : ByteArray → List Int) : Prop where
  fit : Fit Try.prog 9 RV es clock
  size : es.size ≤ n
  lt : b < base
  apart : ∀ x ∈ es.toList, ∀ y ∈ es.toList, x.key ≠ y.key → x.val.ownBlock = none ∨ x.val.ownBlock ≠ y.val.ownBlock
  keys : ∀ x ∈ es.toList, ∃ s : ByteArray, x.key = .string s ∧ s.size ≤ maxLen ∧ g s ≠ [] ∧ (g s).length ≤ n
  none_ : ∀ s : ByteArray, s.size ≤ maxLen → (∀ x ∈ es.toList, x.key ≠ .string s) → g s = []
theorem size_le_of (l : List UInt8) (m : Nat) (h : l.length ≤ m) : (⟨l.toArray⟩ : ByteArray).size ≤ m := by
  have : (⟨l.toArray⟩ : ByteArray).size = l.length := by simp [ByteArray.size]
  omega
theorem Tbl.ents {W : World} {b base n : Nat} {g : ByteArray → List Int} (h : Tbl W b base n g) : ∃ es clock, Ents es clock b base n g ∧ W.heap[b]? = some (.map es clock) ∧ ∀ x ∈ es.toList, ∀ s : ByteArray, x.key = .string s → W.ownsInts base 3 .i64 x.val (g s) := by
  obtain ⟨D, ⟨es, clock, hb, F, hs, e, hlt, hlen, hap⟩, hD⟩ := h
  have hkey : ∀ x ∈ es.toList, ∃ s : ByteArray, x.key = .string s ∧ s.size ≤ maxLen ∧ keyOf Try.prog 9 x.key = some (.string s.data.toList) := fun x hx => by
    obtain ⟨y, hy⟩ := F.reads x hx
    have h0 : keyOf Try.prog 9 x.key = some y.1 := Go.WideElems.rd_key hy
    obtain ⟨l, hl1, hl2, hl3⟩ := Maps.keyOf_str (P := Try.prog) (k := 9) (key := x.key) Try.underlying9 h0
    refine ⟨⟨l.toArray⟩, hl1, size_le_of l maxLen hl3, ?_⟩
    rw [h0, hl2]
  have own : ∀ x ∈ es.toList, ∀ s : ByteArray, x.key = .string s → g s ≠ [] ∧ W.ownsInts base 3 .i64 x.val (g s) := fun x hx s hxs => by
    obtain ⟨s', hs1, hs2, hs3⟩ := hkey x hx
    obtain rfl : s = s' := by rw [hxs] at hs1; injection hs1
    rcases Maps.fit_look false table_law Try.underlying76 (zeroInts W) hb F hs3 with ⟨_, hno, _⟩ | ⟨e0, y, m0, k0, _, hR, hat, _⟩
    · exact absurd rfl (hno x hx)
    · have hx0 : e0 = x := entry_eq_of_key (List.pairwise_map.1 F.stamped.2.2) m0 hx k0
      subst hx0
      obtain ⟨zs, ho, rfl⟩ := rowElem_inv hR
      obtain ⟨d1, d2⟩ := hD s hs2
      rw [e] at d1 d2
      rw [hat .nil] at d1
      have hz := datI_eq ho d1.symm
      have hh : has (DataW.map ((es.toList.map (rg Try.prog 9 (rowElem W base 3 .i64))).foldr DataW.insert [])) (.string s.data.toList) = true := has_true_of_atKey hat
      rw [hh] at d2
      exact ⟨of_decide_eq_true d2.symm, hz ▸ ho⟩
  refine ⟨es, clock, ⟨⟨F.size, F.stamped, fun x hx => ?_⟩, hs, hlt, hap, fun x hx => ?_, fun s hs' hno => ?_⟩, hb, fun x hx s hxs => (own x hx s hxs).2⟩
  · obtain ⟨s, h1, h2, h3⟩ := hkey x hx
    exact ⟨(.string s.data.toList, .held x.val), by unfold Go.WideElems.rd; rw [h3]; rfl⟩
  · obtain ⟨s, h1, h2, h3⟩ := hkey x hx
    exact ⟨s, h1, h2, (own x hx s h1).1, hlen x hx _ (own x hx s h1).2⟩
  · have hk : keyOf Try.prog 9 (.string s) = some (.string s.data.toList) := keyOf_string_mk Try.underlying9 hs'
    rcases Maps.fit_look false table_law Try.underlying76 (zeroInts W) hb F hk with ⟨_, _, hat⟩ | ⟨e0, y, m0, k0, _⟩
    · have d1 := (hD s hs').1
      rw [e, hat .nil] at d1
      unfold datI at d1
      split at d1
      · assumption
      · cases d1
    · exact absurd k0 (hno e0 m0)
theorem sort_grown {α : Type} [Inhabited α] {enc : α → Value} {w : World} {g m : Nat} {d : Array α} {os : Array Obj} (hlt : g < w.heap.size) : w.grownBy (sortWorld enc w g 0 m d os) (some g) := by
  refine ⟨rfl, rfl, rfl, ?_, fun j hj hne => ?_⟩
  · unfold sortWorld
    rw [size_grow]
    unfold putRow mapBlock
    simp only [Array.size_modify]
    exact Nat.le_add_right _ _
  · unfold sortWorld
    rw [heap_grow_old _ _ (by unfold putRow mapBlock; simp only [Array.size_modify]; exact hj)]
    unfold putRow mapBlock
    rw [Array.getElem?_modify, if_neg (fun e => hne (by rw [e]))]
    rfl
/-- slices.Sort of a row of integers of the table's own. -/
theorem sort1_any (base : Nat) (v : Value) (zs : List Int) (w : World) (h : w.ownsInts base 3 .i64 v zs) (hl : zs.length ≤ 1000000) (hne : zs ≠ []) :
    Calls Try.prog 47 #[v] w fun e w' => e = .returned (.tuple #[]) ∧ w'.ownsInts base 3 .i64 v (ascI zs) ∧ w.grownBy w' v.ownBlock := by
  obtain ⟨h1, hwf⟩ := h
  rcases h1.2 with ⟨rfl, hz⟩ | ⟨g, cap, cur, rfl, hb, hh, hnc, hcm, hs, ht⟩
  · exact absurd (List.length_eq_zero_iff.1 hz) hne
  · have hH : Holds (Value.int .i64) w g 0 zs.toArray := holds_of_own (enc := Value.int .i64) zs h1
    have hlt : g < w.heap.size := (Array.getElem?_eq_some_iff.1 hh).1
    refine (Any.slices_Sort_int sortOrdL g 0 cap zs _ hH hlt (by omega)).mono ?_
    rintro e w3 ⟨rfl, nn, os, hw3⟩
    have ha : (ascI zs).toArray.size = zs.length := by rw [List.size_toArray, ascI_len]
    obtain ⟨k1, _⟩ := own_of_sorted1 (enc := Value.int .i64) (m := nn) (os := os) zs h1 (ascI zs).toArray ha
    have hw3' : w3 = sortWorld (Value.int .i64) w g 0 nn (ascI zs).toArray os := hw3
    have k2 := sort_grown (enc := Value.int .i64) (m := nn) (d := (ascI zs).toArray) (os := os) hlt
    rw [← hw3'] at k1 k2
    refine ⟨rfl, ⟨?_, fun z hz => hwf z ?_⟩, k2⟩
    · rw [ascI_len] at k1
      rw [ascI_len]
      exact k1
    · unfold ascI at hz
      exact (List.mergeSort_perm zs _).mem_iff.1 hz
/-- The loop over the table, under way. -/
structure Rng (W : World) (b base n r : Nat) (es : Array MapEntry) (clock : Nat) (g : ByteArray → List Int) (D : DataW Value) (left : Lit → Bool) (cnt : Nat) : Prop where
  rg : W.ranges Try.prog 9 RV b r n D left cnt
  hb : W.heap[b]? = some (.map es clock)
  rows : ∀ x ∈ es.toList, ∀ s : ByteArray, x.key = .string s → W.ownsInts base 3 .i64 x.val (if left (.string s.data.toList) = true then g s else ascI (g s))
  low : base ≤ W.heap.size
section
variable {W W' : World} {b base n r clock cnt cnt' : Nat} {es : Array MapEntry} {g : ByteArray → List Int} {D : DataW Value} {left : Lit → Bool}
theorem Ents.owns (E : Ents es clock b base n g) (hb : W.heap[b]? = some (.map es clock)) (hD : IsDV es D) : W.ownsMap Try.prog 9 RV b n D := ⟨es, clock, hb, E.fit, E.size, hD⟩
theorem Ents.there (E : Ents es clock b base n g) (hb : W.heap[b]? = some (.map es clock)) (hD : IsDV es D) {x : MapEntry} (hx : x ∈ es.toList) {s : ByteArray} (hs : x.key = .string s) : has D (.string s.data.toList) = true := by
  obtain ⟨s', h1, h2, _⟩ := E.keys x hx
  obtain rfl : s = s' := by rw [hs] at h1; injection h1
  have hk : keyOf Try.prog 9 (.string s) = some (.string s.data.toList) := keyOf_string_mk Try.underlying9 h2
  rcases Maps.fit_look false table_law Try.underlying76 (zeroInts W) hb E.fit hk with ⟨_, hno, _⟩ | ⟨e0, y, m0, k0, _, hR, hat, _⟩
  · exact absurd hs (hno x hx)
  · rw [hD]
    exact has_true_of_atKey hat
theorem Rng.start (E : Ents es clock b base n g) (hb : W.heap[b]? = some (.map es clock)) (hD : IsDV es D) (hr : ∀ x ∈ es.toList, ∀ s : ByteArray, x.key = .string s → W.ownsInts base 3 .i64 x.val (g s)) (hl : base ≤ W.heap.size)
    (h : W'.ranges Try.prog 9 RV b r n D (has D) cnt) (hg : W.grownBy W' none) : Rng W' b base n r es clock g D (has D) cnt := by
  refine ⟨h, (hg.block b (Array.getElem?_eq_some_iff.1 hb).1 (by simp)).trans hb, fun x hx s hs => ?_, Nat.le_trans hl hg.size⟩
  rw [if_pos (E.there hb hD hx hs)]
  exact (hr x hx s hs).kept hg (by cases x.val.ownBlock <;> simp)
/-- Which entry has come. -/
theorem Rng.pick (E : Ents es clock b base n g) (hb : W.heap[b]? = some (.map es clock)) (hD : IsDV es D) {key v : Value} {kl : Lit} (hk : keyOf Try.prog 9 key = some kl) (hat : ∀ zd, D.atKey kl zd = .held v) :
    ∃ e0 ∈ es.toList, e0.val = v ∧ ∃ s : ByteArray, e0.key = .string s ∧ kl = .string s.data.toList := by
  rcases Maps.fit_look false table_law Try.underlying76 (zeroInts W) hb E.fit hk with ⟨_, hno, hat'⟩ | ⟨e0, y, m0, k0, _, hR, hat', _⟩
  · have h1 := hat .nil
    have h2 := hat' .nil
    rw [← hD, h1] at h2
    cases h2
  · have h1 := hat .nil
    have h2 := hat' .nil
    rw [← hD, h1] at h2
    have hy : y = (DataW.held e0.val, ([] : List MemPlace)) := (Option.some.inj (show some (DataW.held e0.val, ([] : List MemPlace)) = some y from hR)).symm
    rw [hy] at h2
    injection h2 with h2
    obtain ⟨l, hl1, hl2, _⟩ := Maps.keyOf_str (P := Try.prog) (k := 9) (key := key) Try.underlying9 hk
    exact ⟨e0, m0, h2.symm, ⟨l.toArray⟩, k0.trans hl1, hl2⟩
/-- An entry has come, and its row has been sorted. -/
theorem Rng.step {W1 W2 : World} (E : Ents es clock b base n g) (H : Rng W b base n r es clock g D left cnt) {e0 : MapEntry} (he : e0 ∈ es.toList) {s : ByteArray} (hs : e0.key = .string s)
    (h1 : W1.ranges Try.prog 9 RV b r n D (fun z => left z && !z.sameKey (.string s.data.toList)) cnt') (hg1 : W.grownBy W1 (some r)) (hr : r ≠ b) (hrb : ∀ x ∈ es.toList, x.val.ownBlock ≠ some r)
    (h2 : W2.ownsInts base 3 .i64 e0.val (ascI (g s))) (hg2 : W1.grownBy W2 e0.val.ownBlock) (hbv : e0.val.ownBlock ≠ some b) (hrv : e0.val.ownBlock ≠ some r) :
    Rng W2 b base n r es clock g D (fun z => left z && !z.sameKey (.string s.data.toList)) cnt' := by
  have hlt : b < W.heap.size := (Array.getElem?_eq_some_iff.1 H.hb).1
  refine ⟨h1.kept hg2 (fun e => hbv e.symm) (fun e => hrv e.symm), (hg2.block b (Nat.lt_of_lt_of_le hlt hg1.size) (fun e => hbv e.symm)).trans ((hg1.block b hlt (fun e => hr (Option.some.inj e).symm)).trans H.hb), fun x hx s' hs' => ?_, Nat.le_trans H.low (Nat.le_trans hg1.size hg2.size)⟩
  by_cases hk : x.key = e0.key
  · have hx0 : x = e0 := entry_eq_of_key (List.pairwise_map.1 E.fit.stamped.2.2) hx he hk
    subst hx0
    obtain rfl : s' = s := by rw [hs'] at hs; injection hs
    rw [if_neg (by simp [WideAt.sameKey_self (show WideAt.IsKeyLit (.string s'.data.toList) from trivial)])]
    exact h2
  · have hss : s' ≠ s := fun e => hk (by rw [hs', hs, e])
    have hsk : (Lit.string s'.data.toList).sameKey (.string s.data.toList) = false := by
      cases h : (Lit.string s'.data.toList).sameKey (.string s.data.toList) with
      | false => rfl
      | true => exact absurd (WideAt.sameKey_eq h) (key_ne hss)
    have h3 := H.rows x hx s' hs'
    simp only [hsk, Bool.not_false, Bool.and_true]
    exact (h3.kept hg1 (.inr (hrb x hx))).kept hg2 (E.apart x hx e0 he hk)
/-- At the end. -/
theorem Rng.done (E : Ents es clock b base n g) (H : Rng W b base n r es clock g D left cnt) (hl : ∀ kl, left kl = false) : Tbl W b base n (fun s => ascI (g s)) := by
  have own : ∀ x ∈ es.toList, ∀ s : ByteArray, x.key = .string s → W.ownsInts base 3 .i64 x.val (ascI (g s)) := fun x hx s hs => by
    have := H.rows x hx s hs
    rw [hl, if_neg (by simp)] at this
    exact this
  have F : Fit Try.prog 9 (rowElem (H := Unit) W base 3 .i64) es clock := ⟨E.fit.size, E.fit.stamped, fun x hx => by
    obtain ⟨s, h1, h2, _⟩ := E.keys x hx
    have hk : keyOf Try.prog 9 x.key = some (.string s.data.toList) := by rw [h1]; exact keyOf_string_mk Try.underlying9 h2
    refine ⟨(.string s.data.toList, rowDatum .i64 x.val (ascI (g s))), ?_⟩
    unfold Go.WideElems.rd
    rw [hk, rowElem_mk (own x hx s h1)]
    rfl⟩
  refine ⟨_, ⟨es, clock, H.hb, F, E.size, rfl, E.lt, fun x hx zs ho => ?_, E.apart⟩, fun s hs => ?_⟩
  · obtain ⟨s, h1, _, _, h4⟩ := E.keys x hx
    rw [ho.unique (own x hx s h1), ascI_len]
    exact h4
  · have hk : keyOf Try.prog 9 (.string s) = some (.string s.data.toList) := keyOf_string_mk Try.underlying9 hs
    rcases Maps.fit_look false table_law Try.underlying76 (zeroInts W) H.hb F hk with ⟨_, hno, hat⟩ | ⟨e0, y, m0, k0, _, hR, hat, _⟩
    · have hg := E.none_ s hs hno
      show _ = datI (ascI (g s)) ∧ _ = decide (ascI (g s) ≠ [])
      have h0 : ascI [] = [] := List.length_eq_zero_iff.1 (ascI_len [])
      rw [hat .nil, hg, has_false_of_atKey hat, h0]
      exact ⟨rfl, rfl⟩
    · obtain ⟨zs, ho, rfl⟩ := rowElem_inv hR
      have hz := ho.unique (own e0 m0 s k0)
      subst hz
      obtain ⟨s', h1, _, h3, _⟩ := E.keys e0 m0
      obtain rfl : s = s' := by rw [k0] at h1; injection h1
      have hne : ascI (g s) ≠ [] := fun e => h3 (by
        have := ascI_len (g s)
        rw [e] at this
        exact List.length_eq_zero_iff.1 this.symm)
      show _ = datI (ascI (g s)) ∧ _ = decide (ascI (g s) ≠ [])
      rw [hat .nil, has_true_of_atKey hat]
      refine ⟨?_, (decide_eq_true hne).symm⟩
      show rowDatum .i64 e0.val (ascI (g s)) = _
      rw [ho.datum_pos hne]
      unfold datI
      rw [if_neg hne]
end
end Go.Proofs.Ytpgjjnbepkofdaa
