/-
  Plain: where words begin they stand; in order; and words of two texts with a blank between.
-/
import Derived.Test.YtpgjjnbepkofdaaWrdP
namespace Go.Proofs.Ytpgjjnbepkofdaa
set_option linter.unusedVariables false

theorem wds_parts (L cur : List UInt8) (p : Nat) (hcur : ∀ c ∈ cur, partB c = true) : ∀ x ∈ wdsA L cur p, x.1 ≠ [] ∧ x.1.length ≤ 12 ∧ ∀ c ∈ x.1, partB c = true := by
  induction L generalizing cur p with
  | nil =>
    intro x hx
    unfold wdsA emit at hx
    split at hx
    · rename_i h
      rw [List.mem_singleton.1 hx]
      exact ⟨h.1, h.2, hcur⟩
    · cases hx
  | cons c t ih =>
    intro x hx
    rw [wdsA] at hx
    split at hx
    · rename_i h
      exact ih _ _ (fun d hd => by
        rcases List.mem_append.1 hd with hd | hd
        · exact hcur d hd
        · rw [List.mem_singleton.1 hd]; exact h) x hx
    · rcases List.mem_append.1 hx with hx | hx
      · unfold emit at hx
        split at hx
        · rename_i h
          rw [List.mem_singleton.1 hx]
          exact ⟨h.1, h.2, hcur⟩
        · cases hx
      · exact ih _ _ (by simp) x hx
/-- Where a word begins it stands. -/
theorem wds_stand (L cur pre : List UInt8) : ∀ x ∈ wdsA L cur pre.length, ((pre ++ cur ++ L).drop x.2).take x.1.length = x.1 ∧ x.2 + x.1.length ≤ (pre ++ cur ++ L).length ∧ pre.length ≤ x.2 := by
  induction L generalizing cur pre with
  | nil =>
    intro x hx
    unfold wdsA emit at hx
    split at hx
    · rw [List.mem_singleton.1 hx]
      simp
    · cases hx
  | cons c t ih =>
    intro x hx
    rw [wdsA] at hx
    split at hx
    · have := ih (cur ++ [c]) pre x hx
      simpa using this
    · rcases List.mem_append.1 hx with hx | hx
      · unfold emit at hx
        split at hx
        · rw [List.mem_singleton.1 hx]
          simp
        · cases hx
      · have h1 : pre.length + cur.length + 1 = (pre ++ cur ++ [c]).length := by simp; omega
        rw [h1] at hx
        obtain ⟨i1, i2, i3⟩ := ih [] (pre ++ cur ++ [c]) x hx
        refine ⟨by simpa using i1, by simpa using i2, ?_⟩
        simp at i3
        omega
theorem emit_at (cur : List UInt8) (p : Nat) : ∀ x ∈ emit cur p, x.2 = p ∧ x.1 = cur := by
  intro x hx
  unfold emit at hx
  split at hx
  · rw [List.mem_singleton.1 hx]; exact ⟨rfl, rfl⟩
  · cases hx
theorem wds_low (L cur : List UInt8) (p : Nat) : ∀ x ∈ wdsA L cur p, p ≤ x.2 := by
  induction L generalizing cur p with
  | nil => intro x hx; exact Nat.le_of_eq ((emit_at _ _ x hx).1).symm
  | cons c t ih =>
    intro x hx
    rw [wdsA] at hx
    split at hx
    · exact ih _ _ x hx
    · rcases List.mem_append.1 hx with hx | hx
      · exact Nat.le_of_eq ((emit_at _ _ x hx).1).symm
      · have := ih _ _ x hx; omega
/-- In order. -/
theorem wds_up (L cur : List UInt8) (p : Nat) : (wdsA L cur p).Pairwise (fun x y => x.2 < y.2) := by
  induction L generalizing cur p with
  | nil =>
    unfold wdsA emit
    split <;> simp
  | cons c t ih =>
    rw [wdsA]
    split
    · exact ih _ _
    · refine List.pairwise_append.2 ⟨?_, ih _ _, fun x hx y hy => ?_⟩
      · unfold emit; split <;> simp
      · have := (emit_at _ _ x hx).1
        have := wds_low _ _ _ y hy
        omega
/-- Further on. -/
theorem wds_shift (L cur : List UInt8) (p d : Nat) : wdsA L cur (p + d) = (wdsA L cur p).map (fun x => (x.1, x.2 + d)) := by
  induction L generalizing cur p with
  | nil =>
    unfold wdsA emit
    split <;> simp
  | cons c t ih =>
    rw [wdsA, wdsA]
    split
    · exact ih _ _
    · rw [List.map_append, show p + d + cur.length + 1 = (p + cur.length + 1) + d by omega, ih]
      congr 1
      unfold emit
      split <;> simp
theorem placesOf_shift (ws : List (List UInt8 × Nat)) (d : Nat) (s : List UInt8) : placesOf (ws.map (fun x => (x.1, x.2 + d))) s = (placesOf ws s).map (fun z => z + (d : Int)) := by
  unfold placesOf
  rw [List.filter_map, List.map_map, List.map_map]
  congr 1
/-- Words of two texts with a blank between. -/
theorem words_two (S T : List UInt8) (k : List UInt8) : placesOf (wdsA (S ++ 32 :: T) [] 0) k = placesOf (wdsA S [] 0) k ++ (placesOf (wdsA T [] 0) k).map (fun z => z + ((S.length + 1 : Nat) : Int)) := by
  rw [wdsA_sep _ _ _ _ _ (by decide), placesOf_append, ← placesOf_shift, ← wds_shift, List.length_nil, show 0 + 0 + S.length + 1 = 0 + (S.length + 1) by omega]
/-- What a place of a word is. -/
theorem place_ok (L k : List UInt8) (z : Int) (hz : z ∈ placesOf (wdsA L [] 0) k) : ∃ p : Nat, z = (p : Int) ∧ (L.drop p).take k.length = k ∧ p + k.length ≤ L.length ∧ k ≠ [] ∧ k.length ≤ 12 ∧ ∀ c ∈ k, partB c = true := by
  unfold placesOf at hz
  obtain ⟨x, hx, rfl⟩ := List.mem_map.1 hz
  obtain ⟨hx1, hx2⟩ := List.mem_filter.1 hx
  have hk : x.1 = k := by simpa using hx2
  obtain ⟨a1, a2, a3⟩ := wds_parts L [] 0 (by simp) x hx1
  obtain ⟨b1, b2, _⟩ := wds_stand L [] [] x hx1
  rw [hk] at a1 a2 a3 b1 b2
  exact ⟨x.2, rfl, by simpa using b1, by simpa using b2, a1, a2, a3⟩
theorem places_up (L k : List UInt8) : (placesOf (wdsA L [] 0) k).Pairwise (fun a b => a < b) := by
  unfold placesOf
  refine List.pairwise_map.2 (((wds_up L [] 0).filter _).imp fun h => by omega)
end Go.Proofs.Ytpgjjnbepkofdaa
