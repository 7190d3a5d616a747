/-
  Plain mathematics: marks at the starts of lines, and letters put behind a byte of a line. No program is spoken of here.
-/
import Derived.Test.YtcgcakmpjeodfaaPosL
import Derived.Test.YtcgcakmpjeodfaaMove
import Derived.Test.YtcgcakmpjeodfaaFew
namespace Go.Proofs.Ytcgcakmpjeodfaa
set_option linter.unusedVariables false

theorem nls_none (l : List UInt8) (i : Int) (h : ∀ b ∈ l, b ≠ 10) : nls l i = [] := by
  apply List.eq_nil_of_length_eq_zero
  rw [nls_len_eq]; exact (lnsL_zero l).2 h
def push (p n : Nat) (y : Int) : Int := if y ≤ (p : Int) then y else y + n
theorem put_starts (s : ByteArray) (p : Nat) (put : ByteArray) (h : p ≤ s.size) (hn : ∀ b ∈ put.data.toList, b ≠ 10) :
    starts (mk s ⟨p, 0, put⟩).data.toList = (starts s.data.toList).map (push p put.size) := by
  have hl : s.data.toList.length = s.size := by simp
  have hp : put.data.toList.length = put.size := by simp
  have hm := mk_list s ⟨p, 0, put⟩ (by simpa using h)
  simp only [Nat.add_zero] at hm
  have h1 : (s.data.toList.take p).length = p := by rw [List.length_take]; omega
  rw [hm, starts_cut s.data.toList p (by omega)]
  unfold starts
  rw [nls_append, nls_append, nls_none _ _ hn, List.length_append, h1, hp, List.append_nil, Int.zero_add, List.map_append, List.map_cons]
  have e0 : nls (s.data.toList.drop p) ((p + put.size : Nat) : Int) = (nls (s.data.toList.drop p) p).map (· + (put.size : Int)) := by
    rw [← nls_shift]; congr 1
  rw [e0]
  have e1 : push p put.size 0 = 0 := by unfold push; rw [if_pos (by omega)]
  rw [e1]
  simp only [List.cons_append]
  congr 2
  · conv => lhs; rw [← List.map_id (nls (s.data.toList.take p) 0)]
    apply List.map_congr_left
    intro y hy
    have := nls_bd _ _ y hy
    unfold push; rw [if_pos (by omega)]; rfl
  · apply List.map_congr_left
    intro y hy
    have := nls_bd _ _ y hy
    unfold push; rw [if_neg (by omega)]
def mkOf (L : List Int) : List Mk := (L.take 60).map (fun x => (⟨x.toNat, false⟩ : Mk))
theorem mkOf_push (L : List Int) (p : Nat) (put : ByteArray) (h : ∀ y ∈ L, 0 ≤ y) : mkOf (L.map (push p put.size)) = (mkOf L).map (mvs [⟨p, 0, put⟩]) := by
  unfold mkOf
  rw [← List.map_take, List.map_map, List.map_map]
  apply List.map_congr_left
  intro y hy
  have hy0 := h y (List.mem_of_mem_take hy)
  simp only [Function.comp, mvs, List.foldl_cons, List.foldl_nil, mv1, mv, push]
  congr 1
  by_cases h1 : y ≤ (p : Int)
  · rw [if_pos h1]
    by_cases h2 : y.toNat < p
    · rw [if_pos h2]
    · have q3 : ¬ ((True ∧ p < y.toNat) ∨ (0 < 0 ∧ p + 0 ≤ y.toNat)) := by omega
      rw [if_neg h2, if_neg q3]; simp; omega
  · have q1 : ¬ y.toNat < p := by omega
    have q2 : p < y.toNat := by omega
    rw [if_neg h1, if_neg q1, if_pos (Or.inl ⟨trivial, q2⟩)]; omega
theorem mkOf_len (L : List Int) : (mkOf L).length = min 60 L.length := by simp [mkOf]
theorem mkOf_at (L : List Int) (i : Nat) (h : i < (mkOf L).length) (h0 : ∀ y ∈ L, 0 ≤ y) : ((mkOf L)[i].at_ : Int) = L.getD i 0 := by
  have h1 := mkOf_len L
  have hi : i < L.length := by omega
  have := h0 L[i] (List.getElem_mem hi)
  simp [mkOf, List.getD, hi]; omega
theorem ab_no (l : List Int) (b : UInt8) (h : b ∈ l.map ab) : b ≠ 10 := by
  obtain ⟨x, _, rfl⟩ := List.mem_map.1 h
  unfold ab; split <;> decide
end Go.Proofs.Ytcgcakmpjeodfaa
