/-
  Cursors turned round, plain; what a list of cursors goes over, one by one.
-/
import Derived.Test.YthemlhkdgaeogaaCurM
import Derived.Test.YthemlhkdgaeogaaCurF
namespace Go.Proofs.Ythemlhkdgaeogaa
open Go.RowKit
set_option linter.unusedVariables false
set_option linter.unusedSimpArgs false

/-- The first j of the cursors from the k-th on, round and round. -/
def rot (l : List Sp) (k j : Nat) : List Sp := (List.range j).map fun i => l.getD ((i + k) % l.length) ⟨0, 0⟩
theorem rot_len (l : List Sp) (k j : Nat) : (rot l k j).length = j := by simp [rot]
theorem rot_succ (l : List Sp) (k j : Nat) : rot l k (j + 1) = rot l k j ++ [l.getD ((j + k) % l.length) ⟨0, 0⟩] := by simp [rot, List.range_succ]
theorem rot_perm (l : List Sp) (k : Nat) (hk : 0 < l.length → k < l.length) : List.Perm (rot l k l.length) l := by
  rcases Nat.eq_zero_or_pos l.length with h | h
  · have : l = [] := List.length_eq_zero_iff.1 h
    subst this
    exact List.Perm.refl _
  · have hk := hk h
    have e : rot l k l.length = l.drop k ++ l.take k := by
      refine List.ext_getElem (by rw [rot_len, List.length_append, List.length_drop, List.length_take]; omega) fun i h1 h2 => ?_
      rw [rot_len] at h1
      simp only [rot, List.getElem_map, List.getElem_range]
      have hm : (i + k) % l.length < l.length := Nat.mod_lt _ h
      have hg : l.getD ((i + k) % l.length) ⟨0, 0⟩ = l[(i + k) % l.length] := by
        rw [List.getD_eq_getElem?_getD, List.getElem?_eq_getElem hm]; rfl
      rw [hg]
      by_cases q : i < l.length - k
      · rw [List.getElem_append_left (by rw [List.length_drop]; exact q), List.getElem_drop]
        congr 1
        rw [Nat.mod_eq_of_lt (by omega)]; omega
      · rw [List.getElem_append_right (by rw [List.length_drop]; omega), List.getElem_take]
        congr 1
        rw [List.length_drop, Nat.mod_eq_sub_mod (by omega), Nat.mod_eq_of_lt (by omega)]; omega
    rw [e]
    exact (List.perm_append_comm).trans (by rw [List.take_append_drop])
theorem own_lit (w : World) (e : TypeId) (l : List Sp) (h : l.length ≤ maxLen) : (w.alloc (.cells (cellsOf spc l).toArray e)).ownsRow w.heap.size e 2 (.slice (some ⟨w.heap.size, 0, none⟩) l.length l.length) l.length (cellsOf spc l) :=
  ⟨cellsOf_len spc_len l, .inr ⟨w.heap.size, l.length, _, rfl, Nat.le_refl _, heap_alloc_new w _, Nat.le_refl _, h, by simp [cellsOf_len spc_len l], by rw [List.take_of_length_le (by simp [cellsOf_len spc_len l])]⟩⟩
theorem IsNorm.one {o : List Sp} {c : Sp} (h : IsNorm [c] o) : o.length = 1 := by
  have h1 := h.len
  have h2 : o ≠ [] := fun e => by have := h1.2.1 e; cases this
  have := List.length_pos_iff.2 h2
  have := h1.1
  simp at this; omega
theorem over_nil (j : Nat) : over [] j = false := rfl
/-- Of cursors that are apart, those behind the i-th do not go over its places. -/
theorem apt_drop : ∀ (l : List Sp), Apt l → ∀ i, Apt (l.drop i)
  | l, h, 0 => h
  | [], h, i + 1 => trivial
  | a :: l, h, i + 1 => apt_drop l h.tail i
theorem apt_head {a : Sp} {l : List Sp} (h : Apt (a :: l)) : ∀ c ∈ l, chi a ≤ clo c := by
  induction l generalizing a with
  | nil => intro c hc; cases hc
  | cons b l ih =>
    intro c hc
    rcases List.mem_cons.1 hc with rfl | hc
    · exact h.1
    · have := ih h.2.2 c hc
      have := clo_le b
      have := h.1
      omega
theorem over_drop {l : List Sp} (h : Apt l) (i : Nat) (hi : i < l.length) (j : Nat) : over (l.drop (i + 1)) j = (if clo l[i] ≤ j ∧ j < chi l[i] then false else over (l.drop i) j) := by
  have h2 := apt_drop l h i
  rw [List.drop_eq_getElem_cons hi] at h2 ⊢
  rw [over_cons]
  by_cases q : clo l[i] ≤ j ∧ j < chi l[i]
  · rw [if_pos q]
    unfold over
    rw [List.any_eq_false]
    intro c hc
    have := apt_head h2 c hc
    simp; omega
  · rw [if_neg q]
    have : (decide (clo l[i] ≤ j) && decide (j < chi l[i])) = false := by
      rw [Bool.and_eq_false_iff]; simp; omega
    rw [this, Bool.false_or]
theorem over_in {l : List Sp} (i : Nat) (hi : i < l.length) (j : Nat) (h1 : clo l[i] ≤ j) (h2 : j < chi l[i]) : over (l.drop i) j = true := by
  rw [List.drop_eq_getElem_cons hi, over_cons, decide_eq_true h1, decide_eq_true h2]; rfl
theorem apt_prev {l : List Sp} (h : Apt l) (i : Nat) (hi : i + 1 < l.length) : chi l[i] ≤ clo l[i + 1] := by
  have h2 := apt_drop l h i
  rw [List.drop_eq_getElem_cons (by omega), List.drop_eq_getElem_cons hi] at h2
  exact h2.1
theorem key_at {x z : List Sp} (h : x.map key = z.map key) (i : Nat) (hx : i < x.length) (hz : i < z.length) : clo z[i] = clo x[i] ∧ chi z[i] = chi x[i] := by
  have e : (x.map key)[i]? = (z.map key)[i]? := by rw [h]
  rw [List.getElem?_map, List.getElem?_map, List.getElem?_eq_getElem hx, List.getElem?_eq_getElem hz] at e
  simp only [Option.map_some, Option.some.injEq, key, Prod.mk.injEq] at e
  exact ⟨e.1.symm, e.2.symm⟩
theorem min_clo (c : Sp) : min (c.lo : Int) (c.hi : Int) = (clo c : Int) := by unfold clo; split <;> omega
theorem max_chi (c : Sp) : max (c.lo : Int) (c.hi : Int) = (chi c : Int) := by unfold chi; split <;> omega
theorem over_take {l : List Sp} (i : Nat) (hi : i < l.length) (j : Nat) : over (l.take (i + 1)) j = (over (l.take i) j || (decide (clo l[i] ≤ j) && decide (j < chi l[i]))) := by
  rw [List.take_succ_eq_append_getElem hi, over_append, over_one]
end Go.Proofs.Ythemlhkdgaeogaa
