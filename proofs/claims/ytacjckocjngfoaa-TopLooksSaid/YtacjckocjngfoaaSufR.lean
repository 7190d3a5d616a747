/-
  Orders of the numbers below n as rows, and the call of slices.SortFunc in suffix.sorted at such a row.
-/
import Derived.Test.YtacjckocjngfoaaSufS
namespace Go.Proofs.Ytacjckocjngfoaa
open Go.RowKit Go.Shelf Go.Sort
set_option linter.unusedVariables false
set_option linter.unusedSimpArgs false

theorem own_of_rowIs {w : World} {b : Nat} {t : TypeId} {n base : Nat} {f : Nat → Value} (h : w.rowIs b t n f) (hb : base ≤ b) (hn : n ≤ maxLen) (xs : List Value) (hx : xs.length = n) (he : ∀ i, i < n → xs[i]? = some (f i)) : w.ownsRow base t 1 (.slice (some ⟨b, 0, none⟩) n n) n xs := by
  obtain ⟨c, h1, h2, h3⟩ := h
  refine ⟨by rw [hx, Nat.mul_one], .inr ⟨b, n, c, rfl, hb, h1, Nat.le_refl _, hn, by rw [h2, Nat.mul_one], ?_⟩⟩
  refine List.ext_getElem? fun i => ?_
  rw [Nat.mul_one]
  by_cases q : i < n
  · rw [List.getElem?_take, if_pos q, he i q, Array.getElem?_toList, h3 i q]
  · rw [List.getElem?_eq_none (by rw [List.length_take]; omega), List.getElem?_eq_none (by omega)]
theorem rowIs_of_own {w : World} {g : Nat} {t : TypeId} {n base : Nat} {f : Nat → Value} {xs : List Value} (h : w.ownsRow base t 1 (.slice (some ⟨g, 0, none⟩) n n) n xs) (he : ∀ i, i < n → xs[i]? = some (f i)) : w.rowIs g t n f := by
  obtain ⟨_, _, _, cur, hg, hs, ht⟩ := own_block1 h
  refine ⟨cur, hg, by rw [hs, Nat.mul_one], fun i hi => ?_⟩
  rw [← he i hi, ← ht, Nat.mul_one, List.getElem?_take, if_pos hi, Array.getElem?_toList]
/-- An order of the numbers below n, and the place of each in it. -/
def Bij (n : Nat) (o p : Nat → Nat) : Prop := ∀ k, k < n → o k < n ∧ p k < n ∧ p (o k) = k ∧ o (p k) = k
theorem bij_of_list {n : Nat} (l : List (Fin n)) (h : List.Perm l (List.finRange n)) : ∃ p, Bij n (fun k => (l.map Fin.val).getD k 0) p := by
  have hl : l.length = n := by rw [h.length_eq, List.length_finRange]
  have hnd : (l.map Fin.val).Nodup := by
    rw [List.nodup_iff_pairwise_ne, List.pairwise_map]
    have h1 : l.Nodup := h.nodup_iff.2 (List.nodup_finRange n)
    exact (List.nodup_iff_pairwise_ne.1 h1).imp fun {a b} hab e => hab (Fin.ext e)
  have hm : ∀ k, k < n → k ∈ l.map Fin.val := fun k hk => List.mem_map.2 ⟨⟨k, hk⟩, h.mem_iff.2 (List.mem_finRange _), rfl⟩
  have hlm : (l.map Fin.val).length = n := by rw [List.length_map, hl]
  have hlt : ∀ x ∈ l.map Fin.val, x < n := fun x hx => by
    obtain ⟨y, _, rfl⟩ := List.mem_map.1 hx
    exact y.isLt
  generalize l.map Fin.val = m at *
  have hgd : ∀ k, (hk : k < m.length) → m.getD k 0 = m[k] := fun k hk => by rw [List.getD_eq_getElem?_getD, List.getElem?_eq_getElem hk]; rfl
  refine ⟨fun j => m.idxOf j, fun k hk => ?_⟩
  have hkm : k < m.length := by omega
  have hi : m.idxOf k < m.length := List.idxOf_lt_length_iff.2 (hm k hk)
  have e3 : m.idxOf m[k] = k := List.Nodup.idxOf_getElem hnd k hkm
  have e4 : m.getD (m.idxOf k) 0 = k := by rw [hgd _ hi]; exact List.getElem_idxOf hi
  show m.getD k 0 < n ∧ m.idxOf k < n ∧ m.idxOf (m.getD k 0) = k ∧ m.getD (m.idxOf k) 0 = k
  refine ⟨?_, by omega, ?_, e4⟩
  · rw [hgd k hkm]; exact hlt _ (List.getElem_mem hkm)
  · rw [hgd k hkm]; exact e3
/-- An order as a list. -/
theorem list_of_bij {n : Nat} {o p : Nat → Nat} (h : Bij n o p) : ∃ l : List (Fin n), l.length = n ∧ List.Perm l (List.finRange n) ∧ ∀ k, k < n → (l.map encF)[k]? = some (.int .i64 (o k : Int)) := by
  let l : List (Fin n) := (List.finRange n).map fun k => ⟨o k.val, (h k.val k.isLt).1⟩
  have hl : l.length = n := by simp [l]
  have hnd : l.Nodup := by
    show ((List.finRange n).map _).Nodup
    rw [List.nodup_iff_pairwise_ne, List.pairwise_map]
    refine (List.nodup_iff_pairwise_ne.1 (List.nodup_finRange n)).imp fun {a b} hab e => hab (Fin.ext ?_)
    have e2 : o a.val = o b.val := congrArg Fin.val e
    rw [← (h a.val a.isLt).2.2.1, ← (h b.val b.isLt).2.2.1, e2]
  refine ⟨l, hl, ?_, fun k hk => ?_⟩
  · rw [List.perm_ext_iff_of_nodup hnd (List.nodup_finRange n)]
    intro a
    refine ⟨fun _ => List.mem_finRange _, fun _ => List.mem_map.2 ⟨⟨p a.val, (h a.val a.isLt).2.1⟩, List.mem_finRange _, Fin.ext (h a.val a.isLt).2.2.2⟩⟩
  · simp [l, encF, hk]
/-- The call in 'sorted', at an order. -/
theorem sufSort_row (S : List UInt8) (n w : Nat) (hS : S.length = n) (r o p : Nat → Nat) (hr : RankOk S w r) (ho : Bij n o p) (hw0 : 0 < w) (hw : w ≤ 100000) (hn : n ≤ 1000) (hn0 : 0 < n) (g gw gn gr rb gs : Nat) (W : World)
    (h : W.rowIs g 3 n (fun k => .int .i64 (o k : Int)))
    (hb : Gr.SufBox W n w r gw gn gr rb) (hs : W.cell? ⟨gs, 0, none⟩ = some (.func (.func 32) #[] #[.pointer (some ⟨gw, 0, none⟩), .pointer (some ⟨gn, 0, none⟩), .pointer (some ⟨gr, 0, none⟩)]))
    (h1 : gw ≠ g) (h2 : gn ≠ g) (h3 : gr ≠ g) (h4 : rb ≠ g) (h5 : gs ≠ g) :
    Calls Try.prog 35 #[.slice (some ⟨g, 0, none⟩) n n, .func (.func 33) #[] #[.pointer (some ⟨gr, 0, none⟩), .pointer (some ⟨gs, 0, none⟩)]] W fun e w' =>
      e = .returned (.tuple #[]) ∧ ∃ o' p' : Nat → Nat, Bij n o' p' ∧ Up n (fun k => suf S (o' k) (w + w)) ∧ w'.rowIs g 3 n (fun k => .int .i64 (o' k : Int)) ∧ W.grownBy w' (some g) := by
  subst hS
  obtain ⟨l0, k1, k2, k3⟩ := list_of_bij ho
  have hown := own_of_rowIs h (Nat.le_refl g) (by unfold maxLen; omega) (l0.map encF) (by rw [List.length_map, k1]) k3
  refine (sufSort_any S w r hr hw0 hw hn hn0 l0 k1 g S.length g gw gn gr rb gs W hown hb hs h1 h2 h3 h4 h5).mono ?_
  rintro e w' ⟨rfl, l, p1, p2, p3, p4, p5⟩
  have q := p1.trans k2
  obtain ⟨p', hp'⟩ := bij_of_list l q
  have hl : l.length = S.length := by rw [q.length_eq, List.length_finRange]
  have hat : ∀ i, (hi : i < l.length) → (l.map Fin.val).getD i 0 = l[i].val := fun i hi => by
    rw [List.getD_eq_getElem?_getD, List.getElem?_map, List.getElem?_eq_getElem hi]; rfl
  refine ⟨rfl, _, p', hp', ?_, rowIs_of_own p3 fun i hi => ?_, p5⟩
  · intro i j hij hj
    have := List.pairwise_iff_getElem.1 p2 i j (by omega) (by omega) hij
    show ¬ suf S ((l.map Fin.val).getD j 0) (w + w) < suf S ((l.map Fin.val).getD i 0) (w + w)
    rw [hat i (by omega), hat j (by omega)]
    exact this
  · have hi' : i < l.length := by omega
    rw [List.getElem?_map, List.getElem?_eq_getElem hi']
    show some (encF l[i]) = some (.int .i64 (((l.map Fin.val).getD i 0 : Nat) : Int))
    rw [hat i hi']; rfl
theorem bij_id (n : Nat) : Bij n (fun k => k) (fun k => k) := fun k hk => ⟨hk, hk, rfl, rfl⟩
/-- The next ranks, as far as the k-th place. -/
def nxt (x : Nat → List UInt8) (p : Nat → Nat) (k j : Nat) : Nat := if p j < k then dn x (p j) else 0
/-- Whole: they tell the order by as many bytes. -/
theorem nxt_rank {S : List UInt8} {n v : Nat} (hS : S.length = n) {o p : Nat → Nat} (ho : Bij n o p) (hu : Up n (fun k => suf S (o k) v)) : RankOk S v (nxt (fun k => suf S (o k) v) p n) := by
  subst hS
  intro a b ha hb
  obtain ⟨_, a1, _, a2⟩ := ho a ha
  obtain ⟨_, b1, _, b2⟩ := ho b hb
  unfold nxt
  rw [if_pos a1, if_pos b1, dn_lt hu _ _ a1 b1]
  show suf S (o (p a)) v < suf S (o (p b)) v ↔ _
  rw [a2, b2]
theorem nxt_at {n : Nat} {x : Nat → List UInt8} {o p : Nat → Nat} (ho : Bij n o p) (i k : Nat) (hi : i < n) (hk : i < k) : nxt x p k (o i) = dn x i := by
  unfold nxt
  rw [(ho i hi).2.2.1, if_pos hk]
/-- The places behind the first k have nothing yet. -/
theorem nxt_step {n : Nat} {x : Nat → List UInt8} {o p : Nat → Nat} (ho : Bij n o p) (k : Nat) (hk : k < n) (j : Nat) (hj : j < n) : nxt x p (k + 1) j = if j = o k then dn x k else nxt x p k j := by
  unfold nxt
  by_cases e : j = o k
  · subst e
    rw [(ho k hk).2.2.1, if_pos (by omega), if_pos rfl]
  · have : p j ≠ k := fun e2 => e (by rw [← e2, (ho j hj).2.2.2])
    rw [if_neg e]
    by_cases q : p j < k
    · rw [if_pos q, if_pos (by omega)]
    · rw [if_neg q, if_neg (by omega)]
theorem nxt_one (x : Nat → List UInt8) (p : Nat → Nat) (j : Nat) : nxt x p 1 j = 0 := by
  unfold nxt
  split
  · rename_i h
    have : p j = 0 := by omega
    rw [this]; rfl
  · rfl
/-- Twice the width reaches the end: all differ. -/
theorem all_differ {S : List UInt8} {n v : Nat} (hS : S.length = n) {o p : Nat → Nat} (ho : Bij n o p) (hv : n ≤ v) : dn (fun k => suf S (o k) v) (n - 1) = n - 1 := by
  refine dn_full _ _ fun j hj e => ?_
  have h1 := (ho j (by omega)).1
  have h2 := (ho (j + 1) (by omega)).1
  have e2 : suf S (o (j + 1)) v = suf S (o j) v := e
  rw [suf_all S _ _ (by omega), suf_all S _ _ (by omega)] at e2
  have e3 := drop_ne S _ _ (by omega) (by omega) e2
  have e4 := (ho (j + 1) (by omega)).2.2.1
  rw [e3, (ho j (by omega)).2.2.1] at e4
  omega
/-- All ends in order, each once. -/
def EndsUp (S : List UInt8) (n : Nat) (o p : Nat → Nat) : Prop := Bij n o p ∧ ∀ i j, i < j → j < n → S.drop (o i) < S.drop (o j)
theorem ends_up {S : List UInt8} {n v : Nat} (hS : S.length = n) {o p : Nat → Nat} (ho : Bij n o p) (hu : Up n (fun k => suf S (o k) v)) (hd : dn (fun k => suf S (o k) v) (n - 1) = n - 1) : EndsUp S n o p :=
  ⟨ho, fun i j hij hj => suf_whole S _ _ v (up_strict hu (fun k hk => dn_all _ _ hd k (by omega)) hij hj)⟩
end Go.Proofs.Ytacjckocjngfoaa
