/-
  Many finds in one text, plain: what the machine's chains give is where each find stands. No program is spoken of here.
-/
import Derived.Test.YtacjckocjngfoaaAho
import Derived.Test.YtacjckocjngfoaaReplP
namespace Go.Proofs.Ytacjckocjngfoaa
set_option linter.unusedVariables false
set_option linter.unusedSimpArgs false

/-- A place and the number of a find. -/
structure Ht where
  a : Nat
  f : Nat
instance : Inhabited Ht := ⟨⟨0, 0⟩⟩
def hitsOf (fd : List UInt8 → Int) (e : Nat) (c : List (List UInt8)) : List Ht := c.filterMap fun x => if 0 ≤ fd x then some ⟨e - x.length, (fd x).toNat⟩ else none
def hitsM (l : List (List UInt8)) (fd : List UInt8 → Int) (s : List UInt8) (e : Nat) : List Ht := hitsOf fd e (chain l 10 (lsuf l (s.take e)))
def hitsAll (l : List (List UInt8)) (fd : List UInt8 → Int) (s : List UInt8) (n : Nat) : List Ht := (List.range n).flatMap fun i => hitsM l fd s (i + 1)
/-- Where a find stands. -/
def occL (S F : List UInt8) : List Nat := (List.range S.length).filter fun i => (S.drop i).take F.length == F
structure Fds (l : List (List UInt8)) (fd : List UInt8 → Int) (fs : List (List UInt8)) : Prop where
  t : Trie l
  fin : ∀ j (h : j < fs.length), fs[j] ∈ l ∧ fd fs[j] = (j : Int)
  fd_ : ∀ u ∈ l, fd u = -1 ∨ ∃ j, ∃ h : j < fs.length, fd u = (j : Int) ∧ fs[j] = u
  len : ∀ u ∈ l, u.length ≤ 10
theorem asc_same : ∀ (l m : List Nat), l.Pairwise (· < ·) → m.Pairwise (· < ·) → (∀ x, x ∈ l ↔ x ∈ m) → l = m
  | [], [], _, _, _ => rfl
  | [], b :: m, _, _, h => absurd ((h b).2 (List.mem_cons_self ..)) (by simp)
  | a :: l, [], _, _, h => absurd ((h a).1 (List.mem_cons_self ..)) (by simp)
  | a :: l, b :: m, hl, hm, h => by
    rw [List.pairwise_cons] at hl hm
    have hab : a = b := by
      rcases List.mem_cons.1 ((h a).1 (List.mem_cons_self ..)) with e | e
      · exact e
      · have h1 := hm.1 a e
        rcases List.mem_cons.1 ((h b).2 (List.mem_cons_self ..)) with e2 | e2
        · exact e2.symm
        · have := hl.1 b e2; omega
    subst hab
    rw [asc_same l m hl.2 hm.2 fun x => ?_]
    constructor
    · intro hx
      rcases List.mem_cons.1 ((h x).1 (List.mem_cons_of_mem _ hx)) with e | e
      · have := hl.1 x hx; omega
      · exact e
    · intro hx
      rcases List.mem_cons.1 ((h x).2 (List.mem_cons_of_mem _ hx)) with e | e
      · have := hm.1 x hx; omega
      · exact e
theorem hitsOf_cons (fd : List UInt8 → Int) (e : Nat) (x : List UInt8) (c : List (List UInt8)) : hitsOf fd e (x :: c) = (if 0 ≤ fd x then [⟨e - x.length, (fd x).toNat⟩] else []) ++ hitsOf fd e c := by
  unfold hitsOf
  rw [List.filterMap_cons]
  split <;> rename_i h <;> split at h <;> simp_all
theorem pick_one (fd : List UInt8 → Int) (e j : Nat) (F : List UInt8) : ∀ c : List (List UInt8), c.Nodup → (∀ x ∈ c, (fd x = (j : Int) ↔ x = F)) → ((hitsOf fd e c).filter fun h => h.f == j).map Ht.a = if F ∈ c then [e - F.length] else []
  | [], _, _ => rfl
  | x :: c, hn, hx => by
    rw [List.nodup_cons] at hn
    have ih := pick_one fd e j F c hn.2 fun y hy => hx y (List.mem_cons_of_mem _ hy)
    have h0 := hx x (List.mem_cons_self ..)
    rw [hitsOf_cons, List.filter_append, List.map_append, ih]
    by_cases q : x = F
    · subst q
      have h1 : fd x = (j : Int) := h0.2 rfl
      rw [if_neg hn.1, if_pos (List.mem_cons_self ..), if_pos (by omega)]
      simp [h1]
    · have h1 : ¬ fd x = (j : Int) := fun e => q (h0.1 e)
      have h2 : F ∈ x :: c ↔ F ∈ c := by rw [List.mem_cons]; exact ⟨fun h => h.resolve_left fun e => q e.symm, .inr⟩
      have h3 : (List.map Ht.a (List.filter (fun h => h.f == j) (if 0 ≤ fd x then [(⟨e - x.length, (fd x).toNat⟩ : Ht)] else []))) = [] := by
        split
        · have : ((fd x).toNat == j) = false := by rw [beq_eq_false_iff_ne]; omega
          simp [List.filter_cons, this]
        · rfl
      rw [h3, List.nil_append]
      simp only [h2]
theorem chain_nodup (l : List (List UInt8)) (n : Nat) (u : List UInt8) : (chain l n u).Nodup := by
  have h := (chain_down l n u).1
  exact h.imp fun {a b} hab e => by rw [e] at hab; exact Nat.lt_irrefl _ hab
theorem hitsM_pick {l : List (List UInt8)} {fd : List UInt8 → Int} {fs : List (List UInt8)} (h : Fds l fd fs) (s : List UInt8) (e j : Nat) (hj : j < fs.length) (h0 : fs[j] ≠ []) :
    ((hitsM l fd s e).filter fun x => x.f == j).map Ht.a = if fs[j] <:+ s.take e then [e - fs[j].length] else [] := by
  unfold hitsM
  have hm := lsuf_mem h.t.nil (s.take e)
  rw [pick_one fd e j fs[j] _ (chain_nodup _ _ _)]
  · have hc := chain_mem h.t.nil 10 (lsuf l (s.take e)) fs[j] (h.len _ hm) hm
    have : fs[j] ∈ chain l 10 (lsuf l (s.take e)) ↔ fs[j] <:+ s.take e := by
      rw [hc]
      exact ⟨fun hh => hh.2.2.trans (lsuf_suffix _ _), fun hh => ⟨h0, (h.fin j hj).1, lsuf_max (h.fin j hj).1 _ hh⟩⟩
    simp only [this]
  · intro x hx
    have hxl := ((chain_mem h.t.nil 10 (lsuf l (s.take e)) x (h.len _ hm) hm).1 hx).2.1
    constructor
    · intro ex
      rcases h.fd_ x hxl with q | ⟨i, hi, q1, q2⟩
      · omega
      · have : i = j := by omega
        subst this; exact q2.symm
    · rintro rfl
      exact (h.fin j hj).2
def endsAt (S F : List UInt8) (n : Nat) : List Nat := (List.range n).flatMap fun i => if F <:+ S.take (i + 1) then [i + 1 - F.length] else []
theorem endsAt_succ (S F : List UInt8) (n : Nat) : endsAt S F (n + 1) = endsAt S F n ++ if F <:+ S.take (n + 1) then [n + 1 - F.length] else [] := by
  unfold endsAt
  rw [List.range_succ, List.flatMap_append, List.flatMap_singleton]
theorem endsAt_asc (S F : List UInt8) (h : F ≠ []) : ∀ n, (endsAt S F n).Pairwise (· < ·) ∧ ∀ x ∈ endsAt S F n, x + F.length ≤ n
  | 0 => ⟨List.Pairwise.nil, by simp [endsAt]⟩
  | n + 1 => by
    obtain ⟨h1, h2⟩ := endsAt_asc S F h n
    have hF : 0 < F.length := List.length_pos_iff.2 h
    rw [endsAt_succ]
    split
    · rename_i hs
      have hl := hs.length_le
      rw [List.length_take] at hl
      refine ⟨List.pairwise_append.2 ⟨h1, List.pairwise_singleton _ _, fun a ha b hb => ?_⟩, fun x hx => ?_⟩
      · rw [List.mem_singleton] at hb
        have := h2 a ha; omega
      · rcases List.mem_append.1 hx with hx | hx
        · have := h2 x hx; omega
        · rw [List.mem_singleton] at hx; omega
    · rw [List.append_nil]
      exact ⟨h1, fun x hx => by have := h2 x hx; omega⟩
theorem ends_occ (S F : List UInt8) (h : F ≠ []) : endsAt S F S.length = occL S F := by
  have hF : 0 < F.length := List.length_pos_iff.2 h
  refine asc_same _ _ (endsAt_asc S F h _).1 (List.Pairwise.sublist List.filter_sublist List.pairwise_lt_range) fun x => ?_
  unfold endsAt occL
  rw [List.mem_flatMap, List.mem_filter, List.mem_range]
  constructor
  · rintro ⟨i, hi, hx⟩
    rw [List.mem_range] at hi
    split at hx
    · rename_i hs
      rw [List.mem_singleton] at hx
      obtain ⟨t, ht⟩ := hs
      have hl : t.length + F.length = i + 1 := by
        have := congrArg List.length ht
        rw [List.length_append, List.length_take] at this
        omega
      have hS : S = t ++ (F ++ S.drop (i + 1)) := by rw [← List.append_assoc, ht, List.take_append_drop]
      have hxt : x = t.length := by omega
      refine ⟨by omega, ?_⟩
      rw [hS, hxt, List.drop_left, List.take_left]
      exact beq_self_eq_true _
    · cases hx
  · rintro ⟨hx, he⟩
    have he2 := eq_of_beq he
    have hl : F.length ≤ S.length - x := by
      have := congrArg List.length he2
      rw [List.length_take, List.length_drop] at this
      omega
    refine ⟨x + F.length - 1, List.mem_range.2 (by omega), ?_⟩
    have e1 : x + F.length - 1 + 1 = x + F.length := by omega
    rw [e1, if_pos ⟨S.take x, by rw [List.take_add, he2]⟩]
    rw [List.mem_singleton]; omega
theorem hits_pick {l : List (List UInt8)} {fd : List UInt8 → Int} {fs : List (List UInt8)} (h : Fds l fd fs) (s : List UInt8) (j : Nat) (hj : j < fs.length) (h0 : fs[j] ≠ []) :
    ((hitsAll l fd s s.length).filter fun x => x.f == j).map Ht.a = occL s fs[j] := by
  rw [← ends_occ s fs[j] h0]
  unfold hitsAll endsAt
  rw [List.filter_flatMap, List.map_flatMap]
  congr 1
  funext i
  exact hitsM_pick h s (i + 1) j hj h0
theorem hits_in {l : List (List UInt8)} {fd : List UInt8 → Int} {fs : List (List UInt8)} (h : Fds l fd fs) (s : List UInt8) (n : Nat) : ∀ x ∈ hitsAll l fd s n, x.f < fs.length ∧ x.a ≤ n := by
  intro x hx
  obtain ⟨i, hi, hx⟩ := List.mem_flatMap.1 hx
  rw [List.mem_range] at hi
  obtain ⟨u, hu, hxe⟩ := List.mem_filterMap.1 hx
  have hm := lsuf_mem h.t.nil (s.take (i + 1))
  have hul := ((chain_mem h.t.nil 10 _ u (h.len _ hm) hm).1 hu).2.1
  split at hxe
  · injection hxe with hxe
    subst hxe
    rcases h.fd_ u hul with q | ⟨j, hj, q, _⟩
    · omega
    · exact ⟨by show (fd u).toNat < _; omega, by show i + 1 - u.length ≤ n; omega⟩
  · cases hxe
theorem hitsOf_len (fd : List UInt8 → Int) (e : Nat) (c : List (List UInt8)) : (hitsOf fd e c).length ≤ c.length := List.length_filterMap_le _ _
theorem chain_len (l : List (List UInt8)) : ∀ (n : Nat) (u : List UInt8), (chain l n u).length ≤ n
  | 0, u => Nat.le_refl _
  | n + 1, u => by
    unfold chain
    split
    · exact Nat.zero_le _
    · rw [List.length_cons]; have := chain_len l n (psuf l u); omega
theorem hitsM_len (l : List (List UInt8)) (fd : List UInt8 → Int) (s : List UInt8) (e : Nat) : (hitsM l fd s e).length ≤ 10 := Nat.le_trans (hitsOf_len _ _ _) (chain_len _ _ _)
theorem hitsAll_succ (l : List (List UInt8)) (fd : List UInt8 → Int) (s : List UInt8) (n : Nat) : hitsAll l fd s (n + 1) = hitsAll l fd s n ++ hitsM l fd s (n + 1) := by
  unfold hitsAll
  rw [List.range_succ, List.flatMap_append, List.flatMap_singleton]
theorem hitsAll_len (l : List (List UInt8)) (fd : List UInt8 → Int) (s : List UInt8) : ∀ n, (hitsAll l fd s n).length ≤ 10 * n
  | 0 => Nat.le_refl _
  | n + 1 => by rw [hitsAll_succ, List.length_append]; have := hitsAll_len l fd s n; have := hitsM_len l fd s (n + 1); omega
theorem hitsM_asc {l : List (List UInt8)} {fd : List UInt8 → Int} (s : List UInt8) (e : Nat) (he : e ≤ s.length) : (hitsM l fd s e).Pairwise fun x y => x.a < y.a := by
  unfold hitsM hitsOf
  obtain ⟨h1, h2⟩ := chain_down l 10 (lsuf l (s.take e))
  rw [List.pairwise_filterMap]
  refine (List.pairwise_iff_forall_sublist.2 ?_)
  intro x y hs p hp q hq
  have hxy := (List.pairwise_iff_forall_sublist.1 h1) hs
  have hx : x ∈ chain l 10 (lsuf l (s.take e)) := hs.subset (by simp)
  have h3 := h2 x hx
  have h4 := lsuf_len l (s.take e)
  rw [List.length_take] at h4
  split at hp
  · split at hq
    · injection hp with hp
      injection hq with hq
      subst hp; subst hq
      show e - x.length < e - y.length
      omega
    · cases hq
  · cases hp
theorem occ_occL (s f : ByteArray) (hf : 0 < f.size) : occ s f = occL s.data.toList f.data.toList := by
  refine asc_same _ _ (occ_sorted s f hf) (List.Pairwise.sublist List.filter_sublist List.pairwise_lt_range) fun x => ?_
  have hl : s.data.toList.length = s.size := by simp
  have hlf : f.data.toList.length = f.size := by simp
  rw [occ_mem s f hf]
  unfold occL
  rw [List.mem_filter, List.mem_range]
  constructor
  · rintro ⟨⟨y, h1⟩, h2⟩
    refine ⟨by omega, ?_⟩
    rw [← h1, List.take_left]
    exact beq_self_eq_true _
  · rintro ⟨h1, h2⟩
    have h3 := eq_of_beq h2
    refine ⟨by rw [← h3]; exact List.take_prefix _ _, ?_⟩
    have := congrArg List.length h3
    rw [List.length_take, List.length_drop] at this
    omega

def picks (hs : List Ht) (i : Nat) : List Nat := (hs.filter fun h => h.f == i).map Ht.a
def kkOf (hs : List Ht) (i j : Nat) : Nat := (picks (hs.take j) i).length
def cntOf (hs : List Ht) (i : Nat) : Nat := (hs.filter fun h => decide (h.f < i)).length
theorem picks_app (a b : List Ht) (i : Nat) : picks (a ++ b) i = picks a i ++ picks b i := by unfold picks; rw [List.filter_append, List.map_append]
theorem kk_yes (hs : List Ht) (i j : Nat) (hj : j < hs.length) (he : hs[j].f = i) : kkOf hs i (j + 1) = kkOf hs i j + 1 ∧ kkOf hs i j < (picks hs i).length ∧ (picks hs i).getD (kkOf hs i j) 0 = hs[j].a := by
  have h1 : picks [hs[j]] i = [hs[j].a] := by unfold picks; simp [he]
  have h2 : kkOf hs i (j + 1) = kkOf hs i j + 1 := by
    unfold kkOf
    rw [List.take_succ_eq_append_getElem hj, picks_app, h1, List.length_append]; rfl
  have h3 : picks hs i = picks (hs.take j) i ++ ([hs[j].a] ++ picks (hs.drop (j + 1)) i) := by
    conv => lhs; rw [← List.take_append_drop (j + 1) hs, picks_app, List.take_succ_eq_append_getElem hj, picks_app, h1, List.append_assoc]
  refine ⟨h2, ?_, ?_⟩
  · rw [h3]; unfold kkOf; simp
  · rw [h3]; unfold kkOf
    rw [List.getD_eq_getElem?_getD, List.getElem?_append_right (Nat.le_refl _), Nat.sub_self]; rfl
theorem kk_no (hs : List Ht) (i j : Nat) (hj : j < hs.length) (he : ¬ hs[j].f = i) : kkOf hs i (j + 1) = kkOf hs i j := by
  unfold kkOf
  rw [List.take_succ_eq_append_getElem hj, picks_app, List.length_append]
  have : picks [hs[j]] i = [] := by unfold picks; simp [he]
  rw [this]; rfl
theorem kk_end (hs : List Ht) (i : Nat) : kkOf hs i hs.length = (picks hs i).length := by unfold kkOf; rw [List.take_of_length_le (Nat.le_refl _)]
theorem kk_zero (hs : List Ht) (i : Nat) : kkOf hs i 0 = 0 := by unfold kkOf picks; simp
theorem kk_le (hs : List Ht) (i j : Nat) : kkOf hs i j ≤ hs.length := by
  unfold kkOf picks
  rw [List.length_map]
  exact Nat.le_trans (List.length_filter_le _ _) (by rw [List.length_take]; omega)
theorem picks_le (hs : List Ht) (i : Nat) : (picks hs i).length ≤ hs.length := by unfold picks; rw [List.length_map]; exact List.length_filter_le _ _
theorem cnt_zero (hs : List Ht) : cntOf hs 0 = 0 := by unfold cntOf; simp
theorem cnt_succ (hs : List Ht) (i : Nat) : cntOf hs (i + 1) = cntOf hs i + (picks hs i).length := by
  unfold cntOf picks
  rw [List.length_map]
  induction hs with
  | nil => rfl
  | cons h t ih =>
    simp only [List.filter_cons]
    by_cases h1 : h.f < i
    · have h2 : h.f < i + 1 := by omega
      have h3 : ¬ h.f = i := by omega
      simp [h1, h2, h3]; omega
    · by_cases h3 : h.f = i
      · have h2 : h.f < i + 1 := by omega
        simp [h2, h3]; omega
      · have h2 : ¬ h.f < i + 1 := by omega
        simp [h1, h2, h3]; omega
theorem cnt_all (hs : List Ht) (n : Nat) (h : ∀ x ∈ hs, x.f < n) : cntOf hs n = hs.length := by
  unfold cntOf
  rw [List.filter_eq_self.2 fun x hx => by simpa using h x hx]
theorem cnt_le (hs : List Ht) (i : Nat) : cntOf hs i ≤ hs.length := List.length_filter_le _ _
end Go.Proofs.Ytacjckocjngfoaa
