/-
  Plain: how many places a text has in another one, cut in two.
-/
import Derived.Test.YtacjckocjngfoaaFindS
namespace Go.Proofs.Ytacjckocjngfoaa
open Go.RowKit Fnd
set_option linter.unusedVariables false

theorem ext_get (s : ByteArray) (a b j : Nat) (h : j < b - a) (hb : b ≤ s.size) : (s.extract a b).data.toList[j]? = some (bf s (a + j)) := by
  have hl : s.data.toList.length = s.size := by simp
  rw [show (s.extract a b).data.toList = (s.data.toList.drop a).take (b - a) by simp only [ByteArray.data_extract, Array.toList_extract, List.extract]]
  rw [List.getElem?_take, if_pos h, List.getElem?_drop]
  unfold bf
  rw [List.getD_eq_getElem?_getD, List.getElem?_eq_getElem (by omega)]; rfl
theorem ext_len (s : ByteArray) (a b : Nat) (hb : b ≤ s.size) : (s.extract a b).data.toList.length = b - a := by
  have hl : s.data.toList.length = s.size := by simp
  rw [show (s.extract a b).data.toList = (s.data.toList.drop a).take (b - a) by simp only [ByteArray.data_extract, Array.toList_extract, List.extract]]
  rw [List.length_take, List.length_drop, hl]; omega
theorem ext_size (s : ByteArray) (a b : Nat) (hb : b ≤ s.size) : (s.extract a b).size = b - a := by
  simp only [ByteArray.size_extract]; omega
theorem ext_bf (s : ByteArray) (a b j : Nat) (h : j < b - a) (hb : b ≤ s.size) : bf (s.extract a b) j = bf s (a + j) := by
  have h1 := ext_get s a b j h hb
  unfold bf at h1 ⊢
  rw [List.getD_eq_getElem?_getD, h1]; rfl
theorem get_bf (t : ByteArray) (j : Nat) (h : j < t.size) : t.data.toList[j]? = some (bf t j) := by
  unfold bf
  have hl : j < t.data.toList.length := by simpa using h
  rw [List.getD_eq_getElem?_getD, List.getElem?_eq_getElem hl]; rfl
theorem ext_mt (s t : ByteArray) (i : Nat) (h : i + t.size ≤ s.size) : s.extract i (i + t.size) = t ↔ mt (bf s) (bf t) t.size i = true := by
  rw [mt_iff]
  constructor
  · intro he j hj
    have := ext_bf s i (i + t.size) j (by omega) h
    rw [he] at this; exact this
  · intro hm
    apply bytes_ext
    apply List.ext_getElem?
    intro j
    by_cases hj : j < t.size
    · rw [ext_get s i (i + t.size) j (by omega) h, get_bf t j hj, hm j hj]
    · rw [List.getElem?_eq_none (by rw [ext_len s i _ h]; omega), List.getElem?_eq_none (by simp; omega)]
/-- How many below i have P. -/
def cn (P : Nat → Bool) (i : Nat) : Nat := ((List.range i).filter P).length
theorem cn_add (P : Nat → Bool) (a : Nat) : ∀ k, cn P (a + k) = cn P a + cn (fun p => P (a + p)) k := by
  intro k
  induction k with
  | zero => simp [cn]
  | succ k ih =>
    rw [show a + (k + 1) = a + k + 1 by omega]
    simp only [cn, List.range_succ, List.filter_append, List.length_append] at ih ⊢
    rw [ih, Nat.add_assoc]
    congr 2
    simp only [List.filter_cons, List.filter_nil]
    split <;> rfl
theorem cn_le (P : Nat → Bool) (i : Nat) : cn P i ≤ i := by
  unfold cn
  exact Nat.le_trans (List.length_filter_le _ _) (by simp)
theorem cn_congr (P Q : Nat → Bool) (i : Nat) (h : ∀ p, p < i → P p = Q p) : cn P i = cn Q i := by
  unfold cn
  rw [List.filter_congr (fun p hp => h p (List.mem_range.1 hp))]
theorem occ_len (s t : ByteArray) (h : 0 < t.size) : (occ s t).length = cn (mt (bf s) (bf t) t.size) (s.size + 1 - t.size) := by
  unfold occ; rw [oc_filter _ _ _ h]; rfl
theorem mt_congr (g g' h : Nat → UInt8) (m p p' : Nat) (hg : ∀ j, j < m → g (p + j) = g' (p' + j)) : mt g h m p = mt g' h m p' := by
  have : (mt g h m p = true) ↔ (mt g' h m p' = true) := by
    rw [mt_iff, mt_iff]
    exact ⟨fun hh j hj => by rw [← hg j hj]; exact hh j hj, fun hh j hj => by rw [hg j hj]; exact hh j hj⟩
  cases h1 : mt g h m p <;> cases h2 : mt g' h m p' <;> simp_all
theorem occ_ext (s t : ByteArray) (a b : Nat) (h : 0 < t.size) (hab : a ≤ b) (hb : b ≤ s.size) : (occ (s.extract a b) t).length = cn (fun p => mt (bf s) (bf t) t.size (a + p)) (b - a + 1 - t.size) := by
  rw [occ_len _ _ h, ext_size s a b hb]
  apply cn_congr
  intro p hp
  apply mt_congr
  intro j hj
  rw [ext_bf s a b _ (by omega) hb, Nat.add_assoc]
theorem occ_parts (s t : ByteArray) (c : Nat) (h : 0 < t.size) (hc : c ≤ s.size) :
    (occ (s.extract 0 c) t).length + (occ (s.extract c s.size) t).length + (occ (s.extract (c + 1 - t.size) (min s.size (c + t.size - 1))) t).length = (occ s t).length := by
  rw [occ_ext s t 0 c h (by omega) hc, occ_ext s t c _ h hc (by omega), occ_ext s t _ _ h (by omega) (by omega), occ_len _ _ h]
  generalize mt (bf s) (bf t) t.size = M
  have hs0 : (fun p => M (0 + p)) = M := by funext p; rw [Nat.zero_add]
  rw [hs0, show c - 0 + 1 - t.size = c + 1 - t.size by omega]
  generalize hlo : c + 1 - t.size = lo
  generalize hN : s.size + 1 - t.size = N
  rw [show s.size - c + 1 - t.size = N - c by omega, show min s.size (c + t.size - 1) - lo + 1 - t.size = min N c - lo by omega]
  have e1 := cn_add M c (N - c)
  have e2 := cn_add M lo (min N c - lo)
  by_cases hcN : c ≤ N
  · rw [show c + (N - c) = N by omega] at e1
    rw [show lo + (min N c - lo) = c by omega] at e2
    omega
  · rw [show lo + (min N c - lo) = N by omega] at e2
    rw [show N - c = 0 by omega]
    have : cn (fun p => M (c + p)) 0 = 0 := rfl
    omega
theorem cn_succ (P : Nat → Bool) (i : Nat) : cn P (i + 1) = cn P i + if P i then 1 else 0 := by
  unfold cn
  rw [List.range_succ, List.filter_append, List.length_append]
  simp only [List.filter_cons, List.filter_nil]
  split <;> rfl
/-- The place behind those below i. -/
theorem filter_at (P : Nat → Bool) (N i : Nat) (hi : i < N) : (P i = true → cn P i < ((List.range N).filter P).length ∧ ((List.range N).filter P).getD (cn P i) 0 = i) ∧
    (P i = false → cn P i < ((List.range N).filter P).length → ((List.range N).filter P).getD (cn P i) 0 ≠ i) := by
  have h1 : List.range N = List.range i ++ (List.range' i (N - i)) := by
    rw [List.range_eq_range', List.range_eq_range', show N = i + (N - i) by omega, List.range'_append_1.symm]
    simp
  have h2 : List.range' i (N - i) = i :: List.range' (i + 1) (N - i - 1) := by
    rw [show N - i = (N - i - 1) + 1 by omega, List.range'_succ]; simp
  rw [h1, h2, List.filter_append]
  have hln : ((List.range i).filter P).length = cn P i := rfl
  constructor
  · intro hp
    rw [List.filter_cons_of_pos hp, List.length_append, hln]
    refine ⟨by simp, ?_⟩
    rw [List.getD_eq_getElem?_getD, List.getElem?_append_right (by omega), hln]
    simp
  · intro hp hlt
    rw [List.filter_cons_of_neg (by simp [hp])] at hlt ⊢
    rw [List.length_append, hln] at hlt
    rw [List.getD_eq_getElem?_getD, List.getElem?_append_right (by omega), hln, Nat.sub_self]
    cases hr : List.filter P (List.range' (i + 1) (N - i - 1)) with
    | nil => rw [hr] at hlt; simp at hlt
    | cons x xs =>
      have : x ∈ List.filter P (List.range' (i + 1) (N - i - 1)) := by rw [hr]; simp
      have := (List.mem_filter.1 this).1
      rw [List.mem_range'_1] at this
      simp; omega
theorem natI_len (xs : List Nat) : (natI xs).length = xs.length := by simp [natI]
theorem natI_get (xs : List Nat) (k : Nat) : (natI xs).getD k 0 = ((xs.getD k 0 : Nat) : Int) := by
  simp only [natI, List.getD_eq_getElem?_getD, List.getElem?_map]
  cases xs[k]? <;> rfl
end Go.Proofs.Ytacjckocjngfoaa
