/-
  Ends of a text, plain: their order by so many bytes, and by twice as many.
-/
import Derived.Test.YtacjckocjngfoaaGuessP
namespace Go.Proofs.Ytacjckocjngfoaa
set_option linter.unusedVariables false
set_option linter.unusedSimpArgs false

/-- The first w bytes of the a-th end. -/
def suf (S : List UInt8) (a w : Nat) : List UInt8 := (S.drop a).take w
theorem suf_len (S : List UInt8) (a w : Nat) : (suf S a w).length = min w (S.length - a) := by simp [suf]
theorem suf_split (S : List UInt8) (a w v : Nat) : suf S a (w + v) = suf S a w ++ suf S (a + w) v := by
  unfold suf
  rw [List.take_add, List.drop_drop]
theorem suf_nil (S : List UInt8) (a w : Nat) (h : S.length ≤ a) : suf S a w = [] := by
  unfold suf; rw [List.drop_eq_nil_of_le h, List.take_nil]
theorem suf_all (S : List UInt8) (a w : Nat) (h : S.length ≤ a + w) : suf S a w = S.drop a := by
  unfold suf; exact List.take_of_length_le (by rw [List.length_drop]; omega)
theorem tri8 (x y : List UInt8) : x < y ∨ x = y ∨ y < x := by
  by_cases h1 : x < y
  · exact .inl h1
  · by_cases h2 : y < x
    · exact .inr (.inr h2)
    · exact .inr (.inl (List.le_antisymm (List.not_lt.1 h2) (List.not_lt.1 h1)))
theorem app_lt (x y y' : List UInt8) : x ++ y < x ++ y' ↔ y < y' := by
  induction x with
  | nil => rfl
  | cons c x ih => rw [List.cons_append, List.cons_append, List.cons_lt_cons_iff]; simp [ih, UInt8.lt_irrefl]
theorem lt_len {x x' : List UInt8} (h : x < x') (hl : x'.length ≤ x.length) (y y' : List UInt8) : x ++ y < x' ++ y' := by
  induction x generalizing x' with
  | nil =>
    have : x' = [] := List.length_eq_zero_iff.1 (by simpa using hl)
    subst this
    exact absurd h (lt_irr _)
  | cons c x ih =>
    cases x' with
    | nil => exact absurd h (List.not_lt_nil _)
    | cons d x' =>
      rw [List.cons_lt_cons_iff] at h
      rw [List.cons_append, List.cons_append, List.cons_lt_cons_iff]
      rcases h with h | ⟨h1, h2⟩
      · exact .inl h
      · exact .inr ⟨h1, ih h2 (by simpa using hl)⟩
theorem lt_app {x x' : List UInt8} (h : x < x') (y : List UInt8) : x < x' ++ y := by
  induction x generalizing x' with
  | nil =>
    cases x' with
    | nil => exact absurd h (lt_irr _)
    | cons d x' => exact List.nil_lt_cons _ _
  | cons c x ih =>
    cases x' with
    | nil => exact absurd h (List.not_lt_nil _)
    | cons d x' =>
      rw [List.cons_lt_cons_iff] at h
      rw [List.cons_append, List.cons_lt_cons_iff]
      rcases h with h | ⟨h1, h2⟩
      · exact .inl h
      · exact .inr ⟨h1, ih h2⟩
/-- What is ahead by w bytes is ahead by more. -/
theorem suf_more (S : List UInt8) (a b w v : Nat) (h : suf S a w < suf S b w) : suf S a (w + v) < suf S b (w + v) := by
  rw [suf_split, suf_split]
  have ha := suf_len S a w
  have hb := suf_len S b w
  rcases Nat.lt_or_ge (S.length - a) w with q | q
  · rw [suf_nil S (a + w) v (by omega), List.append_nil]
    exact lt_app h _
  · exact lt_len h (by omega) _ _
/-- Ranks that tell the order by w bytes. -/
def RankOk (S : List UInt8) (w : Nat) (r : Nat → Nat) : Prop := ∀ a b, a < S.length → b < S.length → (r a < r b ↔ suf S a w < suf S b w)
theorem RankOk.eq {S : List UInt8} {w : Nat} {r : Nat → Nat} (h : RankOk S w r) {a b : Nat} (ha : a < S.length) (hb : b < S.length) : r a = r b ↔ suf S a w = suf S b w := by
  have h1 := h a b ha hb
  have h2 := h b a hb ha
  constructor
  · intro e
    rcases tri8 (suf S a w) (suf S b w) with q | q | q
    · have := h1.2 q; omega
    · exact q
    · have := h2.2 q; omega
  · intro e
    rcases Nat.lt_trichotomy (r a) (r b) with q | q | q
    · have := h1.1 q; rw [e] at this; exact absurd this (lt_irr _)
    · exact q
    · have := h2.1 q; rw [e] at this; exact absurd this (lt_irr _)
/-- The rank behind w bytes; none: -1. -/
def sec (n w : Nat) (r : Nat → Nat) (i : Nat) : Int := if i + w < n then (r (i + w) : Int) else -1
def cmpZ (x y : Int) : Int := if x < y then -1 else if y < x then 1 else 0
theorem sec_cmp {S : List UInt8} {w : Nat} {r : Nat → Nat} (h : RankOk S w r) (hw : 0 < w) (a b : Nat) : cmpZ (sec S.length w r a) (sec S.length w r b) = cmpW (suf S (a + w) w) (suf S (b + w) w) := by
  have hpos : ∀ i, i < S.length → suf S i w ≠ [] := fun i hi e => by
    have := suf_len S i w
    rw [e, List.length_nil] at this; omega
  have hnl : ∀ x : List UInt8, x ≠ [] → ([] : List UInt8) < x := fun x hx => by
    cases x with
    | nil => exact absurd rfl hx
    | cons c x => exact List.nil_lt_cons _ _
  unfold sec cmpZ cmpW
  by_cases qa : a + w < S.length
  · rw [if_pos qa]
    by_cases qb : b + w < S.length
    · rw [if_pos qb]
      have h1 := h (a + w) (b + w) qa qb
      have h2 := h (b + w) (a + w) qb qa
      by_cases k1 : r (a + w) < r (b + w)
      · rw [if_pos (by omega), if_pos (h1.1 k1)]
      · rw [if_neg (by omega), if_neg (fun e => k1 (h1.2 e))]
        by_cases k2 : r (b + w) < r (a + w)
        · rw [if_pos (by omega), if_pos (h2.1 k2)]
        · rw [if_neg (by omega), if_neg (fun e => k2 (h2.2 e))]
    · rw [if_neg qb, suf_nil S (b + w) w (by omega), if_neg (by omega), if_pos (by omega), if_neg (List.not_lt_nil _), if_pos (hnl _ (hpos _ qa))]
  · rw [if_neg qa, suf_nil S (a + w) w (by omega)]
    by_cases qb : b + w < S.length
    · rw [if_pos qb, if_pos (by omega), if_pos (hnl _ (hpos _ qb))]
    · rw [if_neg qb, suf_nil S (b + w) w (by omega), if_neg (by omega), if_neg (by omega), if_neg (lt_irr _), if_neg (lt_irr _)]
/-- By twice as many bytes. -/
theorem twice_cmp {S : List UInt8} {w : Nat} {r : Nat → Nat} (h : RankOk S w r) (hw : 0 < w) (a b : Nat) (ha : a < S.length) (hb : b < S.length) :
    (if cmpI (r a) (r b) = 0 then cmpZ (sec S.length w r a) (sec S.length w r b) else cmpI (r a) (r b)) = cmpW (suf S a (w + w)) (suf S b (w + w)) := by
  by_cases q : r a = r b
  · have e := (h.eq ha hb).1 q
    rw [if_pos ((cmpI_zero _ _).2 q), sec_cmp h hw, suf_split, suf_split, e]
    unfold cmpW
    have k1 := app_lt (suf S b w) (suf S (a + w) w) (suf S (b + w) w)
    have k2 := app_lt (suf S b w) (suf S (b + w) w) (suf S (a + w) w)
    by_cases p1 : suf S (a + w) w < suf S (b + w) w
    · rw [if_pos p1, if_pos (k1.2 p1)]
    · rw [if_neg p1, if_neg (fun e => p1 (k1.1 e))]
      by_cases p2 : suf S (b + w) w < suf S (a + w) w
      · rw [if_pos p2, if_pos (k2.2 p2)]
      · rw [if_neg p2, if_neg (fun e => p2 (k2.1 e))]
  · rw [if_neg (fun e => q ((cmpI_zero _ _).1 e))]
    unfold cmpI cmpW
    rcases Nat.lt_trichotomy (r a) (r b) with p | p | p
    · have k := suf_more S a b w w ((h a b ha hb).1 p)
      rw [if_pos p, if_pos k]
    · exact absurd p q
    · have k := suf_more S b a w w ((h b a hb ha).1 p)
      rw [if_neg (by omega), if_pos p, if_neg (lt_asy k), if_pos k]
theorem rank_one (S : List UInt8) : RankOk S 1 (fun i => (S.getD i 0).toNat) := by
  intro a b ha hb
  have e : ∀ i, i < S.length → suf S i 1 = [S.getD i 0] := fun i hi => by
    unfold suf
    rw [List.drop_eq_getElem_cons hi, List.getD_eq_getElem?_getD, List.getElem?_eq_getElem hi]
    rfl
  rw [e a ha, e b hb, List.cons_lt_cons_iff]
  simp [UInt8.lt_iff_toNat_lt, lt_irr]
end Go.Proofs.Ytacjckocjngfoaa
