/-
  A slice of elements of several cells that reads as a list: plain lemmas. No function of the program is spoken of here.
-/
import Derived.Test.YtpjpckhmjonehaaDoorBase
namespace Go.Proofs.YtpjpckhmjonehaaDoor
open Go.RowKit
set_option linter.unusedVariables false

def cellsOf {α : Type} (cl : α → List Value) (xs : List α) : List Value := xs.flatMap cl
section
variable {α : Type} {sz : Nat} {cl : α → List Value}
theorem cellsOf_nil : cellsOf cl [] = [] := rfl
theorem cellsOf_cons (x : α) (xs : List α) : cellsOf cl (x :: xs) = cl x ++ cellsOf cl xs := rfl
theorem cellsOf_append (a b : List α) : cellsOf cl (a ++ b) = cellsOf cl a ++ cellsOf cl b := by simp [cellsOf]
theorem cellsOf_snoc (xs : List α) (x : α) : cellsOf cl (xs ++ [x]) = cellsOf cl xs ++ cl x := by simp [cellsOf]
theorem cellsOf_one (x : α) : cellsOf cl [x] = cl x := by simp [cellsOf]
theorem cellsOf_len (h : ∀ x, (cl x).length = sz) (xs : List α) : (cellsOf cl xs).length = xs.length * sz := by
  induction xs with
  | nil => simp [cellsOf]
  | cons x xs ih => rw [cellsOf_cons, List.length_append, ih, h, List.length_cons, Nat.add_mul]; omega
theorem cellsOf_take (h : ∀ x, (cl x).length = sz) (xs : List α) (k : Nat) (hk : k ≤ xs.length) : cellsOf cl (xs.take k) = (cellsOf cl xs).take (k * sz) := by
  have e := cellsOf_append (cl := cl) (xs.take k) (xs.drop k)
  rw [List.take_append_drop] at e
  have hl : (cellsOf cl (xs.take k)).length = k * sz := by rw [cellsOf_len h, List.length_take, Nat.min_eq_left hk]
  rw [e, ← hl, List.take_left]
theorem cellsOf_drop (h : ∀ x, (cl x).length = sz) (xs : List α) (k : Nat) (hk : k ≤ xs.length) : cellsOf cl (xs.drop k) = (cellsOf cl xs).drop (k * sz) := by
  have e := cellsOf_append (cl := cl) (xs.take k) (xs.drop k)
  rw [List.take_append_drop] at e
  have hl : (cellsOf cl (xs.take k)).length = k * sz := by rw [cellsOf_len h, List.length_take, Nat.min_eq_left hk]
  rw [e, ← hl, List.drop_left]
theorem cellsOf_at (h : ∀ x, (cl x).length = sz) (xs : List α) (i : Nat) (hi : i < xs.length) (j : Nat) (hj : j < sz) : (cellsOf cl xs)[i * sz + j]? = (cl xs[i])[j]? := by
  have e : xs = xs.take i ++ (xs[i] :: xs.drop (i + 1)) := by rw [← List.drop_eq_getElem_cons hi, List.take_append_drop]
  have hl : (cellsOf cl (xs.take i)).length = i * sz := by rw [cellsOf_len h, List.length_take, Nat.min_eq_left (by omega)]
  have e2 : cellsOf cl xs = cellsOf cl (xs.take i) ++ (cl xs[i] ++ cellsOf cl (xs.drop (i + 1))) := by
    rw [← cellsOf_cons, ← cellsOf_append, ← e]
  rw [e2, List.getElem?_append_right (by omega), hl, show i * sz + j - i * sz = j by omega, List.getElem?_append_left (by rw [h]; omega)]
theorem cellsOf_set (h : ∀ x, (cl x).length = sz) (xs : List α) (i : Nat) (hi : i < xs.length) (j : Nat) (hj : j < sz) (u : Value) (y : α) (hy : cl y = (cl xs[i]).set j u) :
    (cellsOf cl xs).set (i * sz + j) u = cellsOf cl (xs.set i y) := by
  have e : xs = xs.take i ++ (xs[i] :: xs.drop (i + 1)) := by rw [← List.drop_eq_getElem_cons hi, List.take_append_drop]
  have hl : (cellsOf cl (xs.take i)).length = i * sz := by rw [cellsOf_len h, List.length_take, Nat.min_eq_left (by omega)]
  have e2 : cellsOf cl xs = cellsOf cl (xs.take i) ++ (cl xs[i] ++ cellsOf cl (xs.drop (i + 1))) := by
    rw [← cellsOf_cons, ← cellsOf_append, ← e]
  have e3 : xs.set i y = xs.take i ++ (y :: xs.drop (i + 1)) := by
    rw [List.set_eq_take_append_cons_drop, if_pos hi]
  rw [e3, cellsOf_append, cellsOf_cons, hy, e2, List.set_append_right _ _ (by omega), hl, show i * sz + j - i * sz = j by omega, List.set_append_left _ _ (by rw [h]; omega)]
theorem cellsOf_oneCell (h : ∀ x, ∀ u ∈ cl x, u.oneCell' = true) (xs : List α) : ∀ u ∈ cellsOf cl xs, u.oneCell' = true := by
  intro u hu
  obtain ⟨x, _, hx⟩ := List.mem_flatMap.1 hu
  exact h x u hx

/-- The slice v reads as the list xs, each element's cells told by cl. -/
def CRow {α : Type} (sz : Nat) (cl : α → List Value) (w : World) (v : Value) (xs : List α) : Prop :=
  ∃ A c, v = .slice A xs.length c ∧ xs.length ≤ c ∧ c ≤ maxLen ∧ Reads w w.heap.size sz A xs.length (cellsOf cl xs)
theorem CRow.later {w w' : World} {v : Value} {xs : List α} (h : CRow sz cl w v xs) (hb : Below w.heap.size w w') : CRow sz cl w' v xs := by
  obtain ⟨A, c, hv, hl, hc, hr⟩ := h
  exact ⟨A, c, hv, hl, hc, (hr.below hb).more hb.size⟩
theorem CRow.nil_ {w : World} : CRow sz cl w (.slice none 0 0) ([] : List α) := ⟨none, 0, rfl, Nat.le_refl _, by decide, ⟨by simp [cellsOf], by simp⟩⟩
theorem CRow.of_own (h0 : ∀ x, (cl x).length = sz) {w : World} {base : Nat} {e : TypeId} {v : Value} {xs : List α} (h : w.ownsRow base e sz v xs.length (cellsOf cl xs)) : CRow sz cl w v xs := by
  rcases h.2 with ⟨rfl, hn⟩ | ⟨g, cap, cur, rfl, hb, hh, hnc, hcm, hs, ht⟩
  · have : xs = [] := List.length_eq_zero_iff.1 hn
    subst this
    exact CRow.nil_
  · exact ⟨_, cap, rfl, hnc, hcm, Reads.of_own h⟩
theorem CRow.lit (h0 : ∀ x, (cl x).length = sz) (w : World) (e : TypeId) (xs : List α) (h : xs.length ≤ maxLen) : CRow sz cl (w.alloc (.cells (cellsOf cl xs).toArray e)) (.slice (some ⟨w.heap.size, 0, none⟩) xs.length xs.length) xs :=
  ⟨_, _, rfl, Nat.le_refl _, h, ⟨cellsOf_len h0 xs, fun hp => ⟨_, rfl, by simp, new_cells w _ e⟩⟩⟩
theorem CRow.take (h0 : ∀ x, (cl x).length = sz) {w : World} {A : Option Addr} {c : Nat} {xs : List α} {k : Nat} (h : CRow sz cl w (.slice A xs.length c) xs) (hk : k ≤ xs.length) : CRow sz cl w (.slice A k c) (xs.take k) := by
  obtain ⟨A', c', hv, hl, hc, hr⟩ := h
  injection hv with h1 h2 h3
  subst h1; subst h3
  have hlen : (xs.take k).length = k := by rw [List.length_take, Nat.min_eq_left hk]
  refine ⟨A, c, by rw [hlen], by omega, hc, ⟨cellsOf_len h0 _, fun hp => ?_⟩⟩
  rw [hlen] at hp
  obtain ⟨ad, ha, hb, hcell⟩ := hr.2 (by omega)
  refine ⟨ad, ha, hb, fun j u hu => hcell j u ?_⟩
  rw [cellsOf_take h0 xs k hk, List.getElem?_take] at hu
  split at hu
  · exact hu
  · simp at hu
theorem CRow.drop (h0 : ∀ x, (cl x).length = sz) {w : World} {A : Option Addr} {c : Nat} {xs : List α} {k : Nat} (h : CRow sz cl w (.slice A xs.length c) xs) (hk : k ≤ xs.length) : CRow sz cl w (.slice (if c = k then A else A.map (·.add (k * sz))) (xs.length - k) (c - k)) (xs.drop k) := by
  obtain ⟨A', c', hv, hl, hc, hr⟩ := h
  injection hv with h1 h2 h3
  subst h1; subst h3
  have hlen : (xs.drop k).length = xs.length - k := by rw [List.length_drop]
  refine ⟨_, _, by rw [hlen], by omega, by omega, ?_⟩
  rw [hlen, cellsOf_drop h0 xs k hk]
  exact hr.cut hk hl
/-- The cells of element i. -/
theorem CRow.at_ (h0 : ∀ x, (cl x).length = sz) (hsz : 0 < sz) {w : World} {B : Nat} {A : Option Addr} {xs : List α} (h : Reads w B sz A xs.length (cellsOf cl xs)) {i : Nat} (hi : i < xs.length) :
    ∃ b off, A = some ⟨b, off, none⟩ ∧ b < B ∧ ∀ j u, (cl xs[i])[j]? = some u → w.cell? ⟨b, off + (i * sz + j), none⟩ = some u := by
  obtain ⟨b, off, rfl, hb, hc⟩ := h.plain (by omega) hsz
  refine ⟨b, off, rfl, hb, fun j u hu => hc _ u ?_⟩
  have hj : j < sz := by have := (List.getElem?_eq_some_iff.1 hu).1; rwa [h0] at this
  rw [cellsOf_at h0 xs i hi j hj, hu]
theorem CRow.at2 {x y : α → Value} {w : World} {B : Nat} {A : Option Addr} {xs : List α} (h : Reads w B 2 A xs.length (cellsOf (fun a => [x a, y a]) xs)) {i : Nat} (hi : i < xs.length) :
    ∃ b off, A = some ⟨b, off, none⟩ ∧ b < B ∧ w.cell? ⟨b, off + i * 2, none⟩ = some (x xs[i]) ∧ w.cell? ⟨b, off + i * 2 + 1, none⟩ = some (y xs[i]) := by
  obtain ⟨b, off, hA, hb, hx⟩ := CRow.at_ (cl := fun a => [x a, y a]) (fun _ => rfl) (by omega) h hi
  exact ⟨b, off, hA, hb, hx 0 _ rfl, by rw [Nat.add_assoc]; exact hx 1 _ rfl⟩
end
theorem own_mono {w : World} {base base' : Nat} {e : TypeId} {size n : Nat} {v : Value} {xs : List Value} (h : w.ownsRow base e size v n xs) (hb : base' ≤ base) : w.ownsRow base' e size v n xs := by
  refine ⟨h.1, h.2.imp id ?_⟩
  rintro ⟨g, cap, cur, h1, h2, h3⟩
  exact ⟨g, cap, cur, h1, Nat.le_trans hb h2, h3⟩
theorem grown_set (w : World) (p : Addr) (u : Value) : w.grownBy (w.setCell p u) (some p.block) :=
  ⟨rfl, rfl, rfl, by simp, fun k _ hne => Below.heap_setCell w p u k (fun e => hne (by rw [e]))⟩
theorem own_far {w : World} {base : Nat} {e : TypeId} {size n : Nat} {v : Value} {xs : List Value} (h : w.ownsRow base e size v n xs) (p : Addr) (u : Value) (hne : v.ownBlock ≠ some p.block) : (w.setCell p u).ownsRow base e size v n xs :=
  h.kept (grown_set w p u) (.inr hne)
theorem Reads.new (w : World) (cs : List Value) (t : TypeId) (size : Nat) (h : cs.length = size) : Reads (w.alloc (.cells cs.toArray t)) (w.alloc (.cells cs.toArray t)).heap.size size (some ⟨w.heap.size, 0, none⟩) 1 cs :=
  ⟨by omega, fun _ => ⟨_, rfl, by simp, new_cells w cs t⟩⟩
theorem Reads.news (w : World) (cs : List Value) (t : TypeId) (size n : Nat) (h : cs.length = n * size) : Reads (w.alloc (.cells cs.toArray t)) (w.alloc (.cells cs.toArray t)).heap.size size (some ⟨w.heap.size, 0, none⟩) n cs :=
  ⟨h, fun _ => ⟨_, rfl, by simp, new_cells w cs t⟩⟩
theorem tdiv_bd (x : Int) (k : Int) (hk : 0 < k) (h : -9223372036854775808 ≤ x ∧ x ≤ 9223372036854775807) : -9223372036854775808 ≤ x.tdiv k ∧ x.tdiv k ≤ 9223372036854775807 := by
  by_cases hx : 0 ≤ x
  · rw [Int.tdiv_eq_ediv_of_nonneg hx]
    have h1 := Int.ediv_nonneg hx (Int.le_of_lt hk)
    have h2 := Int.ediv_le_self k hx
    omega
  · have e : x.tdiv k = -((-x) / k) := by rw [← Int.neg_neg x, Int.neg_tdiv, Int.tdiv_eq_ediv_of_nonneg (by omega), Int.neg_neg]
    rw [e]
    have h1 := Int.ediv_nonneg (show 0 ≤ -x by omega) (Int.le_of_lt hk)
    have h2 := Int.ediv_le_self k (show 0 ≤ -x by omega)
    omega
end Go.Proofs.YtpjpckhmjonehaaDoor
