/-
  The plain mathematics of a ring of tasks: what pushes and turns come to. No Go and no program is spoken of here.
-/
namespace Go.Proofs.Ytifjahfolmhhpaa.Sch

structure Jb where
  push : Bool
  n : Nat
structure Dn where
  code : Nat
  task : Nat
  bytes : Nat
  over : Bool
structure St where
  next : Nat
  ts : List (Nat × Nat)
def okj (j : Jb) : Prop := if j.push then j.n ≤ 600 else 1 ≤ j.n ∧ j.n ≤ 50
def stp (s : St) (j : Jb) : St × Dn :=
  if j.push then (⟨s.next + 1, if 0 < j.n then s.ts ++ [(s.next, j.n)] else s.ts⟩, ⟨0, s.next, 0, j.n == 0⟩)
  else match s.ts with
    | [] => (s, ⟨7, 0, 0, false⟩)
    | (t, l) :: r => (⟨s.next, if 0 < l - min j.n l then r ++ [(t, l - min j.n l)] else r⟩, ⟨0, t, min j.n l, l - min j.n l == 0⟩)
def run : St → List Jb → St
  | s, [] => s
  | s, j :: l => run (stp s j).1 l
def dns : St → List Jb → List Dn
  | _, [] => []
  | s, j :: l => (stp s j).2 :: dns (stp s j).1 l
theorem dns_len (l : List Jb) : ∀ s, (dns s l).length = l.length := by
  induction l with
  | nil => intro s; rfl
  | cons j l ih => intro s; simp [dns, ih]
theorem run_snoc (l : List Jb) (j : Jb) : ∀ s, run s (l ++ [j]) = (stp (run s l) j).1 := by
  induction l with
  | nil => intro s; rfl
  | cons i l ih => intro s; exact ih _
theorem run_append (a b : List Jb) : ∀ s, run s (a ++ b) = run (run s a) b := by
  induction a with
  | nil => intro s; rfl
  | cons i l ih => intro s; exact ih _
theorem dns_append (a b : List Jb) : ∀ s, dns s (a ++ b) = dns s a ++ dns (run s a) b := by
  induction a with
  | nil => intro s; rfl
  | cons i l ih => intro s; simp [dns, run, ih]
theorem dns_snoc (l : List Jb) (j : Jb) (s : St) : dns s (l ++ [j]) = dns s l ++ [(stp (run s l) j).2] := by
  rw [dns_append]; rfl
theorem dns_at (l : List Jb) : ∀ (s : St) (i : Nat) (h : i < l.length), (dns s l)[i]'(by rw [dns_len]; exact h) = (stp (run s (l.take i)) l[i]).2 := by
  induction l with
  | nil => intro s i h; simp at h
  | cons j l ih =>
    intro s i h
    cases i with
    | zero => rfl
    | succ i => simp only [dns, List.getElem_cons_succ, List.take_succ_cons, run]; exact ih _ i (by simpa using h)
/-- Tasks are known: number, bytes left; and no task stands with none. -/
theorem ts_pos (s : St) (j : Jb) (h : ∀ x ∈ s.ts, 0 < x.2) : ∀ x ∈ (stp s j).1.ts, 0 < x.2 := by
  intro x hx
  unfold stp at hx
  split at hx
  · simp only at hx
    split at hx
    · rcases List.mem_append.1 hx with h1 | h1
      · exact h x h1
      · simp at h1; subst h1; simpa using ‹0 < j.n›
    · exact h x hx
  · split at hx
    · exact h x hx
    · rename_i t l r he
      simp only at hx
      split at hx
      · rcases List.mem_append.1 hx with h1 | h1
        · exact h x (by rw [he]; simp [h1])
        · simp at h1; subst h1; simpa using ‹0 < l - min j.n l›
      · exact h x (by rw [he]; simp [hx])
/-- What the law keeps of all tasks: left of each one, by its number. -/
structure Inv (s : St) (left : List Nat) : Prop where
  next : s.next = left.length
  pos : ∀ x ∈ s.ts, 0 < x.2
  at_ : ∀ x ∈ s.ts, left[x.1]? = some x.2
  nodup : (s.ts.map (·.1)).Nodup
  sum : left.sum = (s.ts.map (·.2)).sum
theorem inv0 : Inv ⟨0, []⟩ [] := ⟨rfl, by simp, by simp, by simp, rfl⟩
theorem inv_sum {s : St} {left : List Nat} (h : Inv s left) : left.sum = 0 ↔ s.ts = [] := by
  rw [h.sum]
  constructor
  · intro h0
    cases ht : s.ts with
    | nil => rfl
    | cons x r =>
      have := h.pos x (by rw [ht]; simp)
      rw [ht] at h0; simp at h0; omega
  · intro h0; rw [h0]; rfl
theorem sum_set (l : List Nat) (t : Nat) (x y : Nat) (h : l[t]? = some x) : (l.set t y).sum + x = l.sum + y := by
  induction l generalizing t with
  | nil => simp at h
  | cons a l ih =>
    cases t with
    | zero => simp at h; subst h; simp; omega
    | succ t => simp at h; have := ih t h; simp; omega
theorem inv_push {s : St} {left : List Nat} (h : Inv s left) (n : Nat) : Inv (stp s ⟨true, n⟩).1 (left ++ [n]) := by
  have hlt : ∀ x ∈ s.ts, x.1 < left.length := fun x hx => by
    have := h.at_ x hx
    exact (List.getElem?_eq_some_iff.1 this).1
  have hd : (stp s ⟨true, n⟩).1 = ⟨s.next + 1, if 0 < n then s.ts ++ [(s.next, n)] else s.ts⟩ := rfl
  refine ⟨by rw [hd]; simp [h.next], fun x hx => ts_pos s ⟨true, n⟩ h.pos x hx, ?_, ?_, ?_⟩
  · intro x hx
    rw [hd] at hx
    simp only at hx
    have old : ∀ y ∈ s.ts, (left ++ [n])[y.1]? = some y.2 := fun y hy => by
      rw [List.getElem?_append_left (hlt y hy)]; exact h.at_ y hy
    split at hx
    · rcases List.mem_append.1 hx with h1 | h1
      · exact old x h1
      · simp at h1; subst h1; simp [h.next]
    · exact old x hx
  · rw [hd]; simp only
    split
    · rw [List.map_append, List.nodup_append]
      refine ⟨h.nodup, by simp, ?_⟩
      intro a ha b hb
      simp at hb; subst hb
      simp only [List.mem_map] at ha
      obtain ⟨x, hx, rfl⟩ := ha
      have := hlt x hx; rw [h.next]; omega
    · exact h.nodup
  · rw [hd]; simp only
    split
    · simp [h.sum]
    · have : n = 0 := by omega
      subst this; simp [h.sum]
/-- A turn of a task that is there. -/
theorem inv_turn {s : St} {left : List Nat} (h : Inv s left) (n t l : Nat) (r : List (Nat × Nat)) (he : s.ts = (t, l) :: r) : left[t]? = some l ∧ 0 < l ∧ Inv (stp s ⟨false, n⟩).1 (left.set t (l - min n l)) := by
  have ht : left[t]? = some l := h.at_ (t, l) (by rw [he]; simp)
  have hl : 0 < l := h.pos (t, l) (by rw [he]; simp)
  have hd : (stp s ⟨false, n⟩).1 = ⟨s.next, if 0 < l - min n l then r ++ [(t, l - min n l)] else r⟩ := by simp [stp, he]
  have hnd := h.nodup
  rw [he] at hnd
  simp only [List.map_cons, List.nodup_cons] at hnd
  have htl : t < left.length := (List.getElem?_eq_some_iff.1 ht).1
  refine ⟨ht, hl, ⟨by rw [hd]; simp [h.next], fun x hx => ts_pos s ⟨false, n⟩ h.pos x hx, ?_, ?_, ?_⟩⟩
  · intro x hx
    rw [hd] at hx
    simp only at hx
    have old : ∀ y ∈ r, (left.set t (l - min n l))[y.1]? = some y.2 := fun y hy => by
      have hne : t ≠ y.1 := fun e => hnd.1 (by rw [e]; exact List.mem_map_of_mem hy)
      rw [List.getElem?_set_ne hne]; exact h.at_ y (by rw [he]; simp [hy])
    split at hx
    · rcases List.mem_append.1 hx with h1 | h1
      · exact old x h1
      · simp at h1; subst h1; simp [htl]
    · exact old x hx
  · rw [hd]; simp only
    split
    · rw [List.map_append, List.nodup_append]
      refine ⟨hnd.2, by simp, ?_⟩
      intro a ha b hb
      simp at hb; subst hb
      exact fun e => hnd.1 (by rw [← e]; exact ha)
    · exact hnd.2
  · have hs := sum_set left t l (l - min n l) ht
    have h2 := h.sum
    rw [he] at h2
    simp only [List.map_cons, List.sum_cons] at h2
    rw [hd]; simp only
    split
    · simp only [List.map_append, List.map_cons, List.map_nil, List.sum_append, List.sum_cons, List.sum_nil]; omega
    · omega
end Go.Proofs.Ytifjahfolmhhpaa.Sch
