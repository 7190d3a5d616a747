/-
  What Again tells stands there twice, first where it is told, and nothing longer does: plain.
-/
import Derived.Test.YtfpdobjnmnbneaaSufG
namespace Go.Proofs.Ytfpdobjnmnbneaa
set_option linter.unusedVariables false
set_option linter.unusedSimpArgs false

theorem starts_take (S : List UInt8) (a l : Nat) (h : a + l ≤ S.length) (b : Nat) : StartsAt S b ((S.drop a).take l) ↔ (S.drop b).take l = (S.drop a).take l := by
  have hl : ((S.drop a).take l).length = l := by rw [List.length_take, List.length_drop]; omega
  unfold StartsAt; rw [hl]
theorem starts_lcp {S : List UInt8} {a b l : Nat} (h : a + l ≤ S.length) (h2 : b + l ≤ S.length) : StartsAt S b ((S.drop a).take l) ↔ l ≤ lcp (S.drop a) (S.drop b) := by
  rw [starts_take S a l h]
  constructor
  · intro e
    exact lcp_ge _ _ _ e.symm (by rw [List.length_drop]; omega) (by rw [List.length_drop]; omega)
  · intro e
    exact (lcp_take _ _ _ e).symm
theorem again_first {S : List UInt8} {n : Nat} (hS : S.length = n) {o p : Nat → Nat} (h : EndsUp S n o p) (hl : 0 < (agn (cmn S o) o n).2) (at_ : Nat) (hat : (agn (cmn S o) o n).1 = at_) (hn : at_ + (agn (cmn S o) o n).2 ≤ n) (i : Nat) (hi : i < n) (hst : StartsAt S i ((S.drop at_).take (agn (cmn S o) o n).2)) : at_ ≤ i := by
  have hlen : ((S.drop at_).take (agn (cmn S o) o n).2).length = (agn (cmn S o) o n).2 := by rw [List.length_take, List.length_drop]; omega
  have hmax := agn_max (cmn S o) o n
  have hfirst := agn_first (cmn S o) o n
  rw [hat] at hfirst
  generalize hlg : (agn (cmn S o) o n).2 = lg at *
  have hsl := starts_len hst
  rw [hlen, hS] at hsl
  rcases Nat.lt_or_ge i at_ with q | q
  · exfalso
    have h1 : lg ≤ lcp (S.drop at_) (S.drop i) := (starts_lcp (by omega) (by omega)).1 hst
    obtain ⟨i1, i2, i3, i4⟩ := h.1 i hi
    obtain ⟨a1, a2, a3, a4⟩ := h.1 at_ (by omega)
    rcases Nat.lt_trichotomy (p i) (p at_) with r | r | r
    · -- the one behind i
      have e1 := ends_le h (show p i ≤ p i + 1 by omega) (by omega)
      have e2 := ends_le h (show p i + 1 ≤ p at_ by omega) a2
      rw [i4] at e1
      rw [a4] at e2
      -- i, next, at: lcp i next >= lcp i at
      have k : lg ≤ cmn S o (p i + 1) := by
        rw [cmn_pos S o _ (by omega), Nat.add_sub_cancel, i4]
        refine lcp_ge _ _ _ ?_ (by
          rw [List.length_drop]
          have hb : StartsAt S (o (p i + 1)) ((S.drop at_).take lg) := pre_mid _ _ _ (fun hlt => by
            have := pre_le _ _ hst
            rcases e1 with e1 | e1
            · rw [← e1] at hlt; exact this hlt
            · exact this (List.lt_trans e1 hlt)) e2 (by rw [hlen])
          have := starts_len hb
          rw [hlen] at this; exact this) (by rw [List.length_drop]; omega)
        have hb : StartsAt S (o (p i + 1)) ((S.drop at_).take lg) := pre_mid _ _ _ (fun hlt => by
          have := pre_le _ _ hst
          rcases e1 with e1 | e1
          · rw [← e1] at hlt; exact this hlt
          · exact this (List.lt_trans e1 hlt)) e2 (by rw [hlen])
        unfold StartsAt at hb hst
        rw [hlen] at hb hst
        rw [hb, hst]
      have := hmax (p i + 1) (by omega)
      have := hfirst (p i + 1) (by omega) (by omega) (by omega)
      rw [Nat.add_sub_cancel, i4] at this
      have := Nat.min_le_right (o (p i + 1)) i
      omega
    · rw [← i4, r, a4] at q; omega
    · -- the one ahead of i
      have e1 := ends_le h (show p at_ ≤ p i - 1 by omega) (by omega)
      have e2 := ends_le h (show p i - 1 ≤ p i by omega) i2
      rw [a4] at e1
      rw [i4] at e2
      have k : lg ≤ cmn S o (p i) := by
        rw [cmn_pos S o _ (by omega), i4, lcp_comm]
        have := lcp_mid _ _ _ e1 e2
        omega
      have := hmax (p i) i2
      have := hfirst (p i) i2 (by omega) (by omega)
      rw [i4] at this
      have := Nat.min_le_left i (o (p i - 1))
      omega
  · exact q
theorem sorted_first {l : List Nat} (h : l.Pairwise (· < ·)) {a : Nat} (ha : a ∈ l) (hmin : ∀ x ∈ l, a ≤ x) : l.getD 0 0 = a := by
  cases l with
  | nil => cases ha
  | cons b l =>
    rw [List.pairwise_cons] at h
    show b = a
    have h1 := hmin b (List.mem_cons_self ..)
    rcases List.mem_cons.1 ha with e | e
    · exact e.symm
    · have := h.1 a e; omega
theorem two_len {l : List Nat} {a b : Nat} (ha : a ∈ l) (hb : b ∈ l) (hab : a ≠ b) : 2 ≤ l.length := by
  cases l with
  | nil => cases ha
  | cons x l =>
    cases l with
    | nil =>
      have e1 := List.mem_singleton.1 ha
      have e2 := List.mem_singleton.1 hb
      omega
    | cons y l => simp
theorem again_found {S : List UInt8} {n : Nat} (hS : S.length = n) (hn0 : 0 < n) {o p : Nat → Nat} (h : EndsUp S n o p) (hl : 0 < (agn (cmn S o) o n).2) :
    2 ≤ (occF S ((S.drop (agn (cmn S o) o n).1).take (agn (cmn S o) o n).2)).length ∧ (occF S ((S.drop (agn (cmn S o) o n).1).take (agn (cmn S o) o n).2)).getD 0 0 = (agn (cmn S o) o n).1 := by
  have hlt := again_lt hS hn0 h
  obtain ⟨a, b, ha, hb, hab, h1, h2⟩ := again_pair hS h hl
  have l1 := lcp_le (S.drop a) (S.drop b)
  rw [List.length_drop, List.length_drop] at l1
  have hfst := fun i hi hst => again_first hS h hl _ rfl hlt.2 i hi hst
  generalize hat : (agn (cmn S o) o n).1 = at_ at *
  generalize hlg : (agn (cmn S o) o n).2 = lg at *
  have hA : StartsAt S a ((S.drop at_).take lg) := by
    rw [starts_lcp (by omega) (by omega)]
    rcases Nat.lt_or_ge a b with q | q
    · rw [show at_ = a by omega]
      exact lcp_ge _ _ _ rfl (by rw [List.length_drop]; omega) (by rw [List.length_drop]; omega)
    · rw [show at_ = b by omega, lcp_comm]; omega
  have hB : StartsAt S b ((S.drop at_).take lg) := by
    rw [starts_lcp (by omega) (by omega)]
    rcases Nat.lt_or_ge a b with q | q
    · rw [show at_ = a by omega]; omega
    · rw [show at_ = b by omega]
      exact lcp_ge _ _ _ rfl (by rw [List.length_drop]; omega) (by rw [List.length_drop]; omega)
  have ma : a ∈ occF S ((S.drop at_).take lg) := (mem_occF _ _ _).2 ⟨by omega, hA⟩
  have mb : b ∈ occF S ((S.drop at_).take lg) := (mem_occF _ _ _).2 ⟨by omega, hB⟩
  refine ⟨two_len ma mb hab, sorted_first (occF_pairwise _ _) ?_ fun x hx => ?_⟩
  · rcases Nat.lt_or_ge a b with q | q
    · have e : a = at_ := by omega
      exact e ▸ ma
    · have e : b = at_ := by omega
      exact e ▸ mb
  · have := (mem_occF _ _ _).1 hx
    exact hfst x (by omega) this.2
/-- Nothing longer. -/
theorem again_none {S : List UInt8} {n : Nat} (hS : S.length = n) {o p : Nat → Nat} (h : EndsUp S n o p) (i k : Nat) (hki : k < i) (hi : i + (agn (cmn S o) o n).2 < n) : (S.drop i).take ((agn (cmn S o) o n).2 + 1) ≠ (S.drop k).take ((agn (cmn S o) o n).2 + 1) := by
  intro e
  have h1 := again_most h (a := i) (b := k) (by omega) (by omega) (by omega)
  have h2 := lcp_ge _ _ _ e (by rw [List.length_drop]; omega) (by rw [List.length_drop]; omega)
  omega
end Go.Proofs.Ytfpdobjnmnbneaa
