/-
  Cursors behind an edit, plain: those ahead of it stay where they are.
-/
import Derived.Test.YthemlhkdgaeogaaCurL
import Derived.Test.YthemlhkdgaeogaaRot
namespace Go.Proofs.Ythemlhkdgaeogaa
set_option linter.unusedVariables false
set_option linter.unusedSimpArgs false

theorem mv_mono' (p c n i k : Nat) (h : i ≤ k) : mv p c n i true ≤ mv p c n k true := by
  unfold mv; simp only [if_true]; split <;> split <;> (try split) <;> (try split) <;> omega
theorem mv_id (p c n i : Nat) (h : i < p) : mv p c n i true = i := by unfold mv; rw [if_pos h]
theorem mv_ge (p c n i : Nat) (h : p ≤ i) : p ≤ mv p c n i true := by
  unfold mv
  rw [if_neg (by omega)]
  split
  · omega
  · rw [if_pos rfl]; omega
theorem clo_f (p c m : Nat) (x : Sp) : clo (mvC p c m x) = mv p c m (clo x) true := by
  unfold clo mvC
  simp only
  by_cases h : x.lo ≤ x.hi
  · rw [if_pos h, if_pos (mv_mono' p c m _ _ h)]
  · have := mv_mono' p c m x.hi x.lo (by omega)
    rw [if_neg h]
    split <;> omega
theorem chi_f (p c m : Nat) (x : Sp) : chi (mvC p c m x) = mv p c m (chi x) true := by
  unfold chi mvC
  simp only
  by_cases h : x.lo ≤ x.hi
  · rw [if_pos h, if_pos (mv_mono' p c m _ _ h)]
  · have := mv_mono' p c m x.hi x.lo (by omega)
    rw [if_neg h]
    split <;> omega
theorem f_id (p c m : Nat) (x : Sp) (h : chi x < p) : mvC p c m x = x := by
  have h1 : x.lo ≤ chi x ∧ x.hi ≤ chi x := by unfold chi; split <;> omega
  unfold mvC
  rw [mv_id _ _ _ _ (by omega), mv_id _ _ _ _ (by omega)]
theorem apt_all {a : Sp} {l : List Sp} (h : Apt (a :: l)) : ∀ y ∈ l, chi a ≤ clo y ∧ hits a y = false := by
  intro y hy
  refine ⟨apt_head h y hy, ?_⟩
  cases l with
  | nil => cases hy
  | cons b l =>
    rcases List.mem_cons.1 hy with rfl | hy
    · exact h.2.1
    · have h1 := h.1
      have h2 := apt_head h.2.2 y hy
      have h3 := clo_le b
      have h4 := h.2.1
      unfold hits bare at h4 ⊢
      simp only [Bool.or_eq_false_iff, Bool.and_eq_false_iff, decide_eq_false_iff_not] at h4 ⊢
      omega
/-- Ahead of the edit, and one behind it. -/
theorem ahead {p c m : Nat} {a y : Sp} (hp : chi a < p) (h1 : chi a ≤ clo y) (h2 : hits a y = false) : clt a (mvC p c m y) ∧ hits a (mvC p c m y) = false := by
  have h3 := clo_le a
  have h4 := clo_le y
  have e1 := clo_f p c m y
  have e2 := chi_f p c m y
  rcases Nat.lt_or_ge (chi y) p with q | q
  · rw [f_id p c m y q]
    refine ⟨?_, h2⟩
    unfold hits bare at h2
    simp only [Bool.or_eq_false_iff, Bool.and_eq_false_iff, decide_eq_false_iff_not] at h2
    unfold clt; omega
  · have e3 := mv_ge p c m (chi y) q
    rcases Nat.lt_or_ge (clo y) p with r | r
    · rw [mv_id _ _ _ _ r] at e1
      unfold hits bare at h2 ⊢
      simp only [Bool.or_eq_false_iff, Bool.and_eq_false_iff, decide_eq_false_iff_not] at h2 ⊢
      unfold clt
      omega
    · have e4 := mv_ge p c m (clo y) r
      unfold hits bare
      simp only [Bool.or_eq_false_iff, Bool.and_eq_false_iff, decide_eq_false_iff_not]
      unfold clt
      omega
theorem srt_head {pre rest s : List Sp} (hs : Srt s) (hpre : pre.Pairwise fun a b => clt a b) (hcr : ∀ a ∈ pre, ∀ b ∈ rest, clt a b) (hp : List.Perm s (pre ++ rest)) : ∃ s', s = pre ++ s' ∧ List.Perm s' rest := by
  induction pre generalizing s with
  | nil => exact ⟨s, rfl, hp⟩
  | cons a pre ih =>
    rw [List.pairwise_cons] at hpre
    cases s with
    | nil => have := hp.length_eq; simp at this
    | cons b s1 =>
      unfold Srt at hs
      rw [List.pairwise_cons] at hs
      have hb : b ∈ a :: pre ++ rest := hp.mem_iff.1 (by simp)
      have ha : a ∈ b :: s1 := hp.mem_iff.2 (by simp)
      have hba : b = a := by
        rcases List.mem_cons.1 hb with h | h
        · exact h
        · have h1 : clt a b := by
            rcases List.mem_append.1 h with h | h
            · exact hpre.1 b h
            · exact hcr a (by simp) b h
          rcases List.mem_cons.1 ha with h2 | h2
          · exact h2.symm
          · exact absurd h1 (hs.1 a h2)
      subst hba
      obtain ⟨s', h1, h2⟩ := ih hs.2 hpre.2 (fun x hx y hy => hcr x (by simp [hx]) y hy) (by simpa using hp)
      exact ⟨s', by rw [h1]; rfl, h2⟩
theorem fold_pre (pre : List Sp) : ∀ (s q : List Sp), q ≠ [] → ∃ r, s.foldl nstep (pre ++ q) = pre ++ r := by
  intro s
  induction s with
  | nil => intro q _; exact ⟨q, rfl⟩
  | cons c s ih =>
    intro q hq
    rcases List.eq_nil_or_concat q with rfl | ⟨q', a, rfl⟩
    · exact absurd rfl hq
    · rw [List.concat_eq_append, List.foldl_cons, ← List.append_assoc, nstep_snoc]
      split
      · rw [List.append_assoc]; exact ih _ (by simp)
      · rw [List.append_assoc]; exact ih _ (by simp)
theorem fold_first (pre s : List Sp) (h : ∀ a ∈ pre, ∀ c ∈ s, hits a c = false) : ∃ r, s.foldl nstep pre = pre ++ r := by
  cases s with
  | nil => exact ⟨[], by simp⟩
  | cons c s =>
    rcases List.eq_nil_or_concat pre with rfl | ⟨pre', a, rfl⟩
    · exact ⟨_, by simp; rfl⟩
    · rw [List.concat_eq_append, List.foldl_cons, nstep_snoc, h a (by simp) c (by simp)]
      obtain ⟨r, hr⟩ := fold_pre (pre' ++ [a]) s [c] (by simp)
      refine ⟨r, ?_⟩
      rw [← hr]
      simp
theorem stays {cs o : List Sp} {p c m : Nat} (ha : Apt cs) (ho : IsNorm (cs.map (mvC p c m)) o) (k : Nat) (hk : k < o.length) (hkc : k < cs.length) (hp : chi cs[k] < p) : o[k] = cs[k] := by
  obtain ⟨s, hp1, hs, rfl⟩ := ho.ex
  have hall : ∀ i (hi : i < cs.length), i ≤ k → chi cs[i] < p := by
    intro i hi hik
    rcases Nat.lt_or_ge i k with q | q
    · have h2 := apt_drop cs ha i
      rw [List.drop_eq_getElem_cons hi] at h2
      have h3 := apt_head h2 cs[k] (by
        have : cs[k] = (cs.drop (i + 1))[k - (i + 1)]'(by rw [List.length_drop]; omega) := by rw [List.getElem_drop]; congr 1; omega
        rw [this]; exact List.getElem_mem _)
      have := clo_le cs[k]
      omega
    · have : i = k := by omega
      subst this; exact hp
  have hpre : ∀ x ∈ cs.take (k + 1), chi x < p := by
    intro x hx
    obtain ⟨i, hi, rfl⟩ := List.getElem_of_mem hx
    rw [List.length_take] at hi
    rw [List.getElem_take]
    exact hall i (by omega) (by omega)
  have hmap : cs.map (mvC p c m) = cs.take (k + 1) ++ (cs.drop (k + 1)).map (mvC p c m) := by
    conv => lhs; rw [← List.take_append_drop (k + 1) cs, List.map_append]
    congr 1
    rw [List.map_congr_left (g := id) (fun x hx => f_id p c m x (hpre x hx)), List.map_id]
  have hcross : ∀ (n : Nat) (l : List Sp), Apt l → ∀ a ∈ l.take n, ∀ y ∈ l.drop n, chi a ≤ clo y ∧ hits a y = false := by
    intro n
    induction n with
    | zero => intro l _ a h; simp at h
    | succ n ih =>
      intro l hl a h y hy
      cases l with
      | nil => simp at h
      | cons b l =>
        rw [List.take_succ_cons] at h
        rw [List.drop_succ_cons] at hy
        rcases List.mem_cons.1 h with rfl | h
        · exact apt_all hl y (List.mem_of_mem_drop hy)
        · exact ih l hl.tail a h y hy
  have hcr : ∀ a ∈ cs.take (k + 1), ∀ b ∈ (cs.drop (k + 1)).map (mvC p c m), clt a b ∧ hits a b = false := by
    intro a h b hb
    obtain ⟨y, hy, rfl⟩ := List.mem_map.1 hb
    obtain ⟨h1, h2⟩ := hcross (k + 1) cs ha a h y hy
    exact ahead (hpre a h) h1 h2
  rw [hmap] at hp1
  obtain ⟨s', rfl, hp2⟩ := srt_head hs ((apt_srt cs ha).sublist (List.take_sublist _ _)) (fun a h b hb => (hcr a h b hb).1) hp1
  have hat : Apt (cs.take (k + 1)) := by
    have : ∀ (n : Nat) (l : List Sp), Apt l → Apt (l.take n) := by
      intro n
      induction n with
      | zero => intro l _; trivial
      | succ n ih =>
        intro l hl
        cases l with
        | nil => trivial
        | cons a l =>
          have := ih l hl.tail
          cases l with
          | nil => simp; trivial
          | cons b l =>
            cases n with
            | zero => trivial
            | succ n => exact ⟨hl.1, hl.2.1, this⟩
    exact this _ _ ha
  obtain ⟨r, hr⟩ := fold_first (cs.take (k + 1)) s' (fun a h b hb => (hcr a h b (hp2.mem_iff.1 hb)).2)
  have e : nfold (cs.take (k + 1) ++ s') = cs.take (k + 1) ++ r := by
    unfold nfold
    rw [List.foldl_append, nfold_self _ [] (by simpa using hat)]
    exact hr
  have e2 : (nfold (cs.take (k + 1) ++ s'))[k]? = cs[k]? := by
    rw [e, List.getElem?_append_left (by rw [List.length_take]; omega), List.getElem?_take, if_pos (by omega)]
  rw [List.getElem?_eq_getElem hk, List.getElem?_eq_getElem hkc] at e2
  injection e2
end Go.Proofs.Ythemlhkdgaeogaa
