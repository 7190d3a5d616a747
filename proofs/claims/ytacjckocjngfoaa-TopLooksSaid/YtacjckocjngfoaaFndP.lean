/-
  Where a text stands, by the ends in order: they stand side by side; plain.
-/
import Derived.Test.YtacjckocjngfoaaAgnQ
import Derived.Test.YtacjckocjngfoaaSeqS
namespace Go.Proofs.Ytacjckocjngfoaa
set_option linter.unusedVariables false
set_option linter.unusedSimpArgs false

theorem asc_unique : ∀ (l m : List Int), l.Pairwise (· < ·) → m.Pairwise (· < ·) → (∀ x, x ∈ l ↔ x ∈ m) → l = m
  | [], [], _, _, _ => rfl
  | [], b :: m, _, _, h => absurd ((h b).2 (List.mem_cons_self ..)) (by simp)
  | a :: l, [], _, _, h => absurd ((h a).1 (List.mem_cons_self ..)) (by simp)
  | a :: l, b :: m, hl, hm, h => by
    rw [List.pairwise_cons] at hl hm
    have hab : a = b := by
      rcases List.mem_cons.1 ((h a).1 (List.mem_cons_self ..)) with e | e
      · exact e
      · have h1 := hm.1 a e
        rcases List.mem_cons.1 ((h b).2 (List.mem_cons_self ..)) with e2 | e2
        · exact e2.symm
        · have := hl.1 b e2; omega
    subst hab
    rw [asc_unique l m hl.2 hm.2 fun x => ?_]
    constructor
    · intro hx
      rcases List.mem_cons.1 ((h x).1 (List.mem_cons_of_mem _ hx)) with e | e
      · have := hl.1 x hx; omega
      · exact e
    · intro hx
      rcases List.mem_cons.1 ((h x).2 (List.mem_cons_of_mem _ hx)) with e | e
      · have := hm.1 x hx; omega
      · exact e
theorem asc_pairwise {xs : List Int} (h : xs.Nodup) : (asc xs).Pairwise (· < ·) := by
  have h1 : (asc xs).Pairwise fun a b => decide (a ≤ b) = true := List.pairwise_mergeSort (fun a b c h1 h2 => by simp at *; omega) (fun a b => by simp; omega) xs
  have h2 : (asc xs).Nodup := (List.mergeSort_perm xs _).nodup_iff.2 h
  refine (h1.and (List.nodup_iff_pairwise_ne.1 h2)).imp fun {a b} hab => ?_
  have : a ≤ b := by simpa using hab.1
  have := hab.2
  omega
theorem mem_asc (xs : List Int) (x : Int) : x ∈ asc xs ↔ x ∈ xs := (List.mergeSort_perm xs _).mem_iff
/-- A beginning is not behind. -/
theorem pre_le (f x : List UInt8) (h : x.take f.length = f) : ¬ x < f := by
  intro hl
  have e : f ++ x.drop f.length = x := by
    have := List.take_append_drop f.length x
    rwa [h] at this
  have : f ++ x.drop f.length < f ++ [] := by rw [e, List.append_nil]; exact hl
  rw [app_lt] at this
  exact List.not_lt_nil _ this
/-- Between a text and one that begins with it: it begins with it. -/
theorem pre_mid (f y x : List UInt8) (h1 : ¬ y < f) (h2 : y = x ∨ y < x) (hx : x.take f.length = f) : y.take f.length = f := by
  induction f generalizing y x with
  | nil => simp
  | cons c f ih =>
    cases x with
    | nil => simp at hx
    | cons d x =>
      rw [List.length_cons, List.take_succ_cons] at hx
      injection hx with e1 e2
      subst e1
      cases y with
      | nil => exact absurd (List.nil_lt_cons _ _) h1
      | cons b y =>
        have k2 : b < d ∨ (b = d ∧ (y = x ∨ y < x)) := by
          rcases h2 with h2 | h2
          · injection h2 with e3 e4; exact .inr ⟨e3, .inl e4⟩
          · rw [List.cons_lt_cons_iff] at h2
            rcases h2 with h2 | ⟨e3, h2⟩
            · exact .inl h2
            · exact .inr ⟨e3, .inr h2⟩
        have h1' : ¬ b < d := fun h => h1 (List.cons_lt_cons_iff.2 (.inl h))
        rcases k2 with k2 | ⟨rfl, k2⟩
        · exact absurd k2 h1'
        · rw [List.length_cons, List.take_succ_cons, ih y x (fun h => h1 (List.cons_lt_cons_iff.2 (.inr ⟨rfl, h⟩))) k2 e2]
/-- How many are ahead. -/
theorem countP_cut (p : Nat → Bool) (n : Nat) (hm : ∀ a b, a ≤ b → b < n → p a = true → p b = true) : ∃ lo, lo ≤ n ∧ (List.range n).countP (fun i => !p i) = lo ∧ ∀ k, k < n → (p k = true ↔ lo ≤ k) := by
  induction n with
  | zero => exact ⟨0, Nat.le_refl _, rfl, fun k hk => by omega⟩
  | succ n ih =>
    obtain ⟨lo, h1, h2, h3⟩ := ih (fun a b hab hb => hm a b hab (by omega))
    rw [List.range_succ, List.countP_append, h2]
    by_cases q : p n = true
    · refine ⟨lo, by omega, by simp [q], fun k hk => ?_⟩
      rcases Nat.lt_or_ge k n with r | r
      · exact h3 k r
      · have : k = n := by omega
        subst this
        exact ⟨fun _ => h1, fun _ => q⟩
    · have hlo : lo = n := by
        rcases Nat.lt_or_ge lo n with r | r
        · exact absurd (hm lo n (by omega) (by omega) ((h3 lo r).2 (Nat.le_refl _))) q
        · omega
      refine ⟨n + 1, by omega, by simp [q, hlo], fun k hk => ?_⟩
      constructor
      · intro hp
        exact absurd (hm k n (by omega) (by omega) hp) q
      · intro h; omega
/-- The ends from the first one that is not ahead, as long as they begin with it: those that begin with it. -/
theorem find_side {S F : List UInt8} {n : Nat} {o p : Nat → Nat} (h : EndsUp S n o p) (lo hi : Nat) (hlo : ∀ k, k < n → (¬ S.drop (o k) < F ↔ lo ≤ k)) (hlh : lo ≤ hi) (hhi : hi ≤ n) (hall : ∀ k, lo ≤ k → k < hi → StartsAt S (o k) F) (hend : hi < n → ¬ StartsAt S (o hi) F) (k : Nat) (hk : k < n) : StartsAt S (o k) F ↔ lo ≤ k ∧ k < hi := by
  constructor
  · intro hs
    have h1 : lo ≤ k := (hlo k hk).1 (pre_le _ _ hs)
    refine ⟨h1, ?_⟩
    rcases Nat.lt_or_ge k hi with q | q
    · exact q
    · exfalso
      have := hend (by omega)
      exact this (pre_mid F _ _ ((hlo hi (by omega)).2 hlh) (ends_le h q hk) hs)
  · rintro ⟨h1, h2⟩
    exact hall k h1 h2
end Go.Proofs.Ytacjckocjngfoaa
