/-
  The texts that stand in a text, each once, counted by its ends in order: plain.
-/
import Derived.Test.YtacjckocjngfoaaAgnP
namespace Go.Proofs.Ytacjckocjngfoaa
set_option linter.unusedVariables false
set_option linter.unusedSimpArgs false

/-- It stands there, and is not empty. -/
def Subs (S x : List UInt8) : Prop := x ≠ [] ∧ ∃ u v, S = u ++ x ++ v
/-- .. at a place. -/
def StartsAt (S : List UInt8) (a : Nat) (x : List UInt8) : Prop := (S.drop a).take x.length = x
theorem subs_iff (S x : List UInt8) : Subs S x ↔ x ≠ [] ∧ ∃ a, a < S.length ∧ StartsAt S a x := by
  constructor
  · rintro ⟨hx, u, v, rfl⟩
    refine ⟨hx, u.length, ?_, ?_⟩
    · have : 0 < x.length := List.length_pos_iff.2 hx
      simp; omega
    · unfold StartsAt
      rw [List.append_assoc, List.drop_left, List.take_left]
  · rintro ⟨hx, a, ha, h⟩
    refine ⟨hx, S.take a, (S.drop a).drop x.length, ?_⟩
    unfold StartsAt at h
    conv => lhs; rw [← List.take_append_drop a S, ← List.take_append_drop x.length (S.drop a), h]
    rw [List.append_assoc]
theorem starts_len {S : List UInt8} {a : Nat} {x : List UInt8} (h : StartsAt S a x) : x.length ≤ S.length - a := by
  have := congrArg List.length h
  rw [List.length_take, List.length_drop] at this; omega
/-- What an end has that the one ahead has not. -/
def news (S : List UInt8) (c : Nat) (a : Nat) : List (List UInt8) := (List.range (S.length - a - c)).map fun i => (S.drop a).take (c + 1 + i)
theorem mem_news {S : List UInt8} {c a : Nat} {x : List UInt8} : x ∈ news S c a ↔ c < x.length ∧ StartsAt S a x := by
  unfold news StartsAt
  rw [List.mem_map]
  constructor
  · rintro ⟨i, hi, rfl⟩
    rw [List.mem_range] at hi
    have hl : ((S.drop a).take (c + 1 + i)).length = c + 1 + i := by rw [List.length_take, List.length_drop]; omega
    rw [hl]
    exact ⟨by omega, rfl⟩
  · rintro ⟨h1, h2⟩
    have h3 := starts_len h2
    refine ⟨x.length - c - 1, by rw [List.mem_range]; omega, ?_⟩
    rw [show c + 1 + (x.length - c - 1) = x.length by omega]
    exact h2
theorem news_nodup (S : List UInt8) (c a : Nat) : (news S c a).Nodup := by
  unfold news
  rw [List.nodup_iff_pairwise_ne, List.pairwise_map]
  have h := List.nodup_iff_pairwise_ne.1 (List.nodup_range (n := S.length - a - c))
  refine List.Pairwise.imp_of_mem (fun {x y} hx hy hxy e => ?_) h
  rw [List.mem_range] at hx hy
  have := congrArg List.length e
  rw [List.length_take, List.length_take, List.length_drop] at this
  omega
/-- All that stands there, by the first k ends. -/
def subsL (S : List UInt8) (o : Nat → Nat) : Nat → List (List UInt8)
  | 0 => []
  | k + 1 => subsL S o k ++ news S (cmn S o k) (o k)
theorem subsL_len {S : List UInt8} {n : Nat} (hS : S.length = n) (o : Nat → Nat) (hb : ∀ k, k < n → o k < n) (k : Nat) (hk : k ≤ n) : (subsL S o k).length + csum (cmn S o) k = ((List.range k).map fun j => n - o j).sum := by
  induction k with
  | zero => rfl
  | succ k ih =>
    rw [subsL, List.length_append, csum_succ, List.range_succ, List.map_append, List.sum_append]
    have h1 := ih (by omega)
    have h2 : (news S (cmn S o k) (o k)).length = n - o k - cmn S o k := by unfold news; rw [List.length_map, List.length_range, hS]
    have h3 : cmn S o k ≤ n - o k := by
      unfold cmn
      split
      · omega
      · have := (lcp_le (S.drop (o k)) (S.drop (o (k - 1)))).1
        rw [List.length_drop] at this; omega
    rw [h2]
    simp
    omega
theorem mem_subsL {S : List UInt8} {o : Nat → Nat} {k : Nat} {x : List UInt8} : x ∈ subsL S o k ↔ ∃ j, j < k ∧ x ∈ news S (cmn S o j) (o j) := by
  induction k with
  | zero => simp [subsL]
  | succ k ih =>
    rw [subsL, List.mem_append, ih]
    constructor
    · rintro (⟨j, hj, h⟩ | h)
      · exact ⟨j, by omega, h⟩
      · exact ⟨k, by omega, h⟩
    · rintro ⟨j, hj, h⟩
      rcases Nat.lt_or_ge j k with q | q
      · exact .inl ⟨j, q, h⟩
      · have : j = k := by omega
        subst this; exact .inr h
theorem lcp_both {S : List UInt8} {a b : Nat} {x : List UInt8} (ha : StartsAt S a x) (hb : StartsAt S b x) : x.length ≤ lcp (S.drop a) (S.drop b) := by
  have h1 := starts_len ha
  have h2 := starts_len hb
  refine lcp_ge _ _ _ ?_ (by rw [List.length_drop]; exact h1) (by rw [List.length_drop]; exact h2)
  unfold StartsAt at ha hb
  rw [ha, hb]
theorem starts_of_lcp {S : List UInt8} {a b : Nat} {x : List UInt8} (ha : StartsAt S a x) (h : x.length ≤ lcp (S.drop a) (S.drop b)) : StartsAt S b x := by
  unfold StartsAt at *
  rw [← lcp_take _ _ _ h]; exact ha
theorem ends_le {S : List UInt8} {n : Nat} {o p : Nat → Nat} (h : EndsUp S n o p) {i j : Nat} (hij : i ≤ j) (hj : j < n) : S.drop (o i) = S.drop (o j) ∨ S.drop (o i) < S.drop (o j) := by
  rcases Nat.lt_or_ge i j with q | q
  · exact .inr (h.2 i j q hj)
  · have : i = j := by omega
    subst this; exact .inl rfl
theorem subsL_nodup {S : List UInt8} {n : Nat} {o p : Nat → Nat} (h : EndsUp S n o p) (k : Nat) (hk : k ≤ n) : (subsL S o k).Nodup := by
  induction k with
  | zero => exact List.nodup_nil
  | succ k ih =>
    rw [subsL, List.nodup_append]
    refine ⟨ih (by omega), news_nodup _ _ _, ?_⟩
    intro x hx y hy e
    subst e
    obtain ⟨j, hj, hx⟩ := mem_subsL.1 hx
    obtain ⟨x1, x2⟩ := mem_news.1 hx
    obtain ⟨y1, y2⟩ := mem_news.1 hy
    rw [cmn_pos S o k (by omega)] at y1
    have h1 := lcp_both x2 y2
    have h2 := lcp_mid _ _ _ (ends_le h (show j ≤ k - 1 by omega) (by omega)) (ends_le h (show k - 1 ≤ k by omega) (by omega))
    rw [lcp_comm (S.drop (o (k - 1)))] at h2
    omega
theorem subsL_all {S : List UInt8} {n : Nat} (hS : S.length = n) {o p : Nat → Nat} (h : EndsUp S n o p) (x : List UInt8) : x ∈ subsL S o n ↔ Subs S x := by
  rw [subs_iff, mem_subsL]
  constructor
  · rintro ⟨j, hj, hx⟩
    obtain ⟨x1, x2⟩ := mem_news.1 hx
    exact ⟨fun e => by rw [e] at x1; simp at x1, o j, by rw [hS]; exact (h.1 j hj).1, x2⟩
  · rintro ⟨hx, a, ha, hs⟩
    have hpos : 0 < x.length := List.length_pos_iff.2 hx
    have key : ∀ k, k < n → StartsAt S (o k) x → ∃ j, j < n ∧ x ∈ news S (cmn S o j) (o j) := by
      intro k
      induction k with
      | zero => intro hk hst; exact ⟨0, hk, mem_news.2 ⟨by unfold cmn; rw [if_pos rfl]; exact hpos, hst⟩⟩
      | succ k ih =>
        intro hk hst
        by_cases q : cmn S o (k + 1) < x.length
        · exact ⟨k + 1, hk, mem_news.2 ⟨q, hst⟩⟩
        · rw [cmn_pos S o (k + 1) (by omega)] at q
          exact ih (by omega) (starts_of_lcp hst (by rw [Nat.add_sub_cancel] at q; omega))
    rw [hS] at ha
    obtain ⟨p1, p2, p3, p4⟩ := h.1 a ha
    exact key (p a) p2 (by rw [p4]; exact hs)
theorem sum_bij {n : Nat} {o p : Nat → Nat} (h : Bij n o p) (f : Nat → Nat) : ((List.range n).map fun j => f (o j)).sum = ((List.range n).map f).sum := by
  have hp : List.Perm ((List.range n).map o) (List.range n) := by
    rw [List.perm_ext_iff_of_nodup ?_ List.nodup_range]
    · intro a
      rw [List.mem_map, List.mem_range]
      constructor
      · rintro ⟨k, hk, rfl⟩
        rw [List.mem_range] at hk; exact (h k hk).1
      · intro ha
        exact ⟨p a, by rw [List.mem_range]; exact (h a ha).2.1, (h a ha).2.2.2⟩
    · rw [List.nodup_iff_pairwise_ne, List.pairwise_map]
      refine List.Pairwise.imp_of_mem (fun {x y} hx hy hxy e => ?_) (List.nodup_iff_pairwise_ne.1 (List.nodup_range (n := n)))
      rw [List.mem_range] at hx hy
      apply hxy
      rw [← (h x hx).2.2.1, ← (h y hy).2.2.1, e]
  have := (hp.map f).sum_nat
  rw [List.map_map] at this
  exact this
theorem sum_down (n : Nat) : ((List.range n).map fun j => n - j).sum = n * (n + 1) / 2 := by
  have h : ∀ k, k ≤ n → 2 * ((List.range k).map fun j => n - j).sum + (n - k) * (n - k + 1) = n * (n + 1) := by
    intro k
    induction k with
    | zero => intro _; simp
    | succ k ih =>
      intro hk
      rw [List.range_succ, List.map_append, List.sum_append]
      have := ih (by omega)
      simp only [List.map_cons, List.map_nil, List.sum_cons, List.sum_nil, Nat.add_zero]
      obtain ⟨d, hd⟩ : ∃ d, n - k = d + 1 := ⟨n - k - 1, by omega⟩
      rw [hd] at this ⊢
      rw [show n - (k + 1) = d by omega]
      have e1 : (d + 1) * (d + 1 + 1) = d * (d + 1) + 2 * (d + 1) := by
        rw [Nat.mul_add, Nat.mul_one, Nat.mul_comm (d + 1) (d + 1), Nat.add_mul d 1 (d + 1)]; omega
      omega
  have := h n (Nat.le_refl n)
  simp at this
  omega
/-- As many as Unlike tells. -/
theorem unlike_list {S : List UInt8} {n : Nat} (hS : S.length = n) {o p : Nat → Nat} (h : EndsUp S n o p) :
    ∃ L : List (List UInt8), L.Nodup ∧ (∀ x, x ∈ L ↔ Subs S x) ∧ ((n * (n + 1) / 2 : Nat) : Int) - (csum (cmn S o) n : Int) = (L.length : Int) := by
  refine ⟨subsL S o n, subsL_nodup h n (Nat.le_refl n), subsL_all hS h, ?_⟩
  have h1 := subsL_len hS o (fun k hk => (h.1 k hk).1) n (Nat.le_refl n)
  rw [sum_bij h.1 (fun j => n - j), sum_down] at h1
  omega
/-- Two such lists are as long as each other. -/
theorem same_len {α : Type} {L M : List α} (h1 : L.Nodup) (h2 : M.Nodup) (h : ∀ x, x ∈ L ↔ x ∈ M) : L.length = M.length := ((List.perm_ext_iff_of_nodup h1 h2).2 h).length_eq
theorem subs_rev (S x : List UInt8) : Subs S.reverse x ↔ Subs S x.reverse := by
  unfold Subs
  constructor
  · rintro ⟨hx, u, v, h⟩
    refine ⟨by simpa using hx, v.reverse, u.reverse, ?_⟩
    have := congrArg List.reverse h
    rw [List.reverse_reverse] at this
    rw [this]; simp
  · rintro ⟨hx, u, v, h⟩
    refine ⟨by simpa using hx, v.reverse, u.reverse, ?_⟩
    rw [h]; simp
/-- Turned round: as many. -/
theorem subs_turned {S : List UInt8} {L M : List (List UInt8)} (h1 : L.Nodup) (hL : ∀ x, x ∈ L ↔ Subs S x) (h2 : M.Nodup) (hM : ∀ x, x ∈ M ↔ Subs S.reverse x) : L.length = M.length := by
  have hn : (L.map List.reverse).Nodup := by
    rw [List.nodup_iff_pairwise_ne, List.pairwise_map]
    exact (List.nodup_iff_pairwise_ne.1 h1).imp fun {a b} hab e => hab (by rw [← List.reverse_reverse a, e, List.reverse_reverse])
  have el : (L.map List.reverse).length = L.length := List.length_map ..
  rw [← el]
  refine same_len hn h2 fun x => ?_
  rw [hM, subs_rev, ← hL, List.mem_map]
  constructor
  · rintro ⟨y, hy, rfl⟩; rw [List.reverse_reverse]; exact hy
  · intro hy; exact ⟨_, hy, List.reverse_reverse _⟩
/-- A byte more: at least one more, and at most as many as it is long. -/
theorem subs_more {S : List UInt8} (b : UInt8) {L M : List (List UInt8)} (h1 : L.Nodup) (hL : ∀ x, x ∈ L ↔ Subs S x) (h2 : M.Nodup) (hM : ∀ x, x ∈ M ↔ Subs (S ++ [b]) x) : L.length < M.length ∧ M.length ≤ L.length + (S.length + 1) := by
  constructor
  · have hn : ((S ++ [b]) :: L).Nodup := by
      rw [List.nodup_cons]
      refine ⟨fun h => ?_, h1⟩
      obtain ⟨_, u, v, e⟩ := (hL _).1 h
      have := congrArg List.length e
      simp at this
      omega
    have := List.Nodup.length_le_of_subset hn (l₂ := M) (fun x hx => by
      rcases List.mem_cons.1 hx with rfl | hx
      · exact (hM _).2 ⟨by simp, [], [], by simp⟩
      · obtain ⟨h3, u, v, e⟩ := (hL _).1 hx
        exact (hM _).2 ⟨h3, u, v ++ [b], by rw [e]; simp⟩)
    rw [List.length_cons] at this; omega
  · have := List.Nodup.length_le_of_subset h2 (l₂ := L ++ (List.range (S.length + 1)).map fun i => (S ++ [b]).drop i) (fun x hx => by
      obtain ⟨h3, u, v, e⟩ := (hM _).1 hx
      rw [List.mem_append]
      rcases List.eq_nil_or_concat v with rfl | ⟨v', c, rfl⟩
      · right
        rw [List.mem_map]
        have hl := congrArg List.length e
        have hp : 0 < x.length := List.length_pos_iff.2 h3
        simp at hl
        refine ⟨u.length, by rw [List.mem_range]; omega, ?_⟩
        rw [e, List.append_nil, List.drop_left]
      · left
        rw [List.concat_eq_append, ← List.append_assoc] at e
        obtain ⟨e1, e2⟩ := List.append_inj' e rfl
        exact (hL _).2 ⟨h3, u, v', e1⟩)
    rw [List.length_append, List.length_map, List.length_range] at this
    exact this
theorem subs_bound {S : List UInt8} {n : Nat} (hS : S.length = n) {o p : Nat → Nat} (h : EndsUp S n o p) {L : List (List UInt8)} (hl : ((n * (n + 1) / 2 : Nat) : Int) - (csum (cmn S o) n : Int) = (L.length : Int)) : L.length ≤ n * (n + 1) / 2 := by omega
/-- At least as many as it is long. -/
theorem subs_least {S : List UInt8} {L : List (List UInt8)} (hL : ∀ x, x ∈ L ↔ Subs S x) : S.length ≤ L.length := by
  have hn : ((List.range S.length).map fun i => S.take (i + 1)).Nodup := by
    rw [List.nodup_iff_pairwise_ne, List.pairwise_map]
    refine List.Pairwise.imp_of_mem (fun {x y} hx hy hxy e => ?_) (List.nodup_iff_pairwise_ne.1 (List.nodup_range (n := S.length)))
    rw [List.mem_range] at hx hy
    have := congrArg List.length e
    rw [List.length_take, List.length_take] at this
    omega
  have := List.Nodup.length_le_of_subset hn (l₂ := L) (fun x hx => by
    obtain ⟨i, hi, rfl⟩ := List.mem_map.1 hx
    rw [List.mem_range] at hi
    refine (hL _).2 ⟨fun e => ?_, [], S.drop (i + 1), by simp⟩
    have := congrArg List.length e
    rw [List.length_take, List.length_nil] at this
    omega)
  rw [List.length_map, List.length_range] at this
  exact this
end Go.Proofs.Ytacjckocjngfoaa
