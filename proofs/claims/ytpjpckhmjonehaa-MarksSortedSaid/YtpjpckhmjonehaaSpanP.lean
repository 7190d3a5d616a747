/-
  The plain law of sets of spans: lists in normal form, their places, and that the places tell the list.
-/
import Derived.Test.YtpjpckhmjonehaaCRow
namespace Go.Proofs.Ytpjpckhmjonehaa
set_option linter.unusedVariables false
set_option linter.unusedSimpArgs false

structure Sp where
  lo : Nat
  hi : Nat
deriving DecidableEq
def spc (s : Sp) : List Value := [.int .i64 (s.lo : Int), .int .i64 (s.hi : Int)]
theorem spc_len (s : Sp) : (spc s).length = 2 := rfl
theorem spc_one (s : Sp) : ∀ u ∈ spc s, u.oneCell' = true := by intro u hu; simp [spc] at hu; rcases hu with rfl | rfl <;> rfl
def spv (s : Sp) : Value := .agg #[.int .i64 (s.lo : Int), .int .i64 (s.hi : Int)]
/-- Spans that ascend, none beside another, from b on. -/
def Nrm : Nat → List Sp → Prop
  | _, [] => True
  | b, s :: l => b ≤ s.lo ∧ s.lo < s.hi ∧ Nrm (s.hi + 1) l
def top : Nat → List Sp → Nat
  | b, [] => b
  | _, s :: l => top (s.hi + 1) l
/-- The place i is in the set. -/
def inS (l : List Sp) (i : Nat) : Bool := l.any fun s => decide (s.lo ≤ i) && decide (i < s.hi)
theorem inS_nil (i : Nat) : inS [] i = false := rfl
theorem inS_cons (s : Sp) (l : List Sp) (i : Nat) : inS (s :: l) i = ((decide (s.lo ≤ i) && decide (i < s.hi)) || inS l i) := rfl
theorem inS_append (a b : List Sp) (i : Nat) : inS (a ++ b) i = (inS a i || inS b i) := by simp [inS]
theorem Nrm.mono {b b' : Nat} {l : List Sp} (h : Nrm b l) (hb : b' ≤ b) : Nrm b' l := by
  cases l with
  | nil => trivial
  | cons s l => exact ⟨Nat.le_trans hb h.1, h.2⟩
theorem Nrm.out {l : List Sp} : ∀ {b i : Nat}, Nrm b l → i < b → inS l i = false := by
  induction l with
  | nil => intro b i _ _; rfl
  | cons s l ih =>
    intro b i h hi
    rw [inS_cons, ih h.2.2 (by have := h.1; have := h.2.1; omega)]
    have : ¬ s.lo ≤ i := by have := h.1; omega
    simp [this]
theorem nrm_eq (l : List Sp) : ∀ (l' : List Sp) (b b' : Nat), Nrm b l → Nrm b' l' → (∀ i, inS l i = inS l' i) → l = l' := by
  induction l with
  | nil =>
    intro l' b b' _ h' he
    cases l' with
    | nil => rfl
    | cons s l' =>
      have := he s.lo
      rw [inS_nil, inS_cons] at this
      have h2 := h'.2.1
      simp [h2] at this
  | cons s l ih =>
    intro l' b b' h h' he
    cases l' with
    | nil =>
      have := he s.lo
      rw [inS_nil, inS_cons] at this
      have h2 := h.2.1
      simp [h2] at this
    | cons t l' =>
      obtain ⟨h1, h2, h3⟩ := h
      obtain ⟨k1, k2, k3⟩ := h'
      have key : ∀ i, (decide (s.lo ≤ i) && decide (i < s.hi) || inS l i) = (decide (t.lo ≤ i) && decide (i < t.hi) || inS l' i) := fun i => he i
      have o1 : ∀ i, i < s.hi + 1 → inS l i = false := fun i hi => h3.out hi
      have o2 : ∀ i, i < t.hi + 1 → inS l' i = false := fun i hi => k3.out hi
      have elo : s.lo = t.lo := by
        rcases Nat.lt_trichotomy s.lo t.lo with hlt | heq | hgt
        · have := key s.lo
          rw [o1 _ (by omega), o2 _ (by omega)] at this
          have e : ¬ t.lo ≤ s.lo := by omega
          simp [h2, e] at this
        · exact heq
        · have := key t.lo
          rw [o1 _ (by omega), o2 _ (by omega)] at this
          have e : ¬ s.lo ≤ t.lo := by omega
          simp [k2, e] at this
      have ehi : s.hi = t.hi := by
        rcases Nat.lt_trichotomy s.hi t.hi with hlt | heq | hgt
        · have := key s.hi
          rw [o1 _ (by omega), o2 _ (by omega)] at this
          have e : t.lo ≤ s.hi := by omega
          simp [hlt, e] at this
        · exact heq
        · have := key t.hi
          rw [o1 _ (by omega), o2 _ (by omega)] at this
          have e : s.lo ≤ t.hi := by omega
          simp [hgt, e] at this
      have est : s = t := by cases s; cases t; simp_all
      subst est
      have : l = l' := by
        refine ih l' _ _ h3 k3 fun i => ?_
        by_cases hi : i < s.hi + 1
        · rw [o1 i hi, o2 i hi]
        · have := key i
          have e : ¬ i < s.hi := by omega
          simpa [e] using this
      rw [this]
theorem nrm_append (a b : List Sp) : ∀ k, Nrm k (a ++ b) ↔ Nrm k a ∧ Nrm (top k a) b := by
  induction a with
  | nil => intro k; simp [Nrm, top]
  | cons s a ih => intro k; simp only [List.cons_append, Nrm, top, ih, and_assoc]
theorem top_append (a b : List Sp) : ∀ k, top k (a ++ b) = top (top k a) b := by
  induction a with
  | nil => intro k; rfl
  | cons s a ih => intro k; exact ih _
theorem top_ge (l : List Sp) : ∀ k, Nrm k l → k ≤ top k l := by
  induction l with
  | nil => intro k _; exact Nat.le_refl _
  | cons s l ih => intro k h; have := ih _ h.2.2; simp only [top]; have := h.1; have := h.2.1; omega
theorem nrm_top (l : List Sp) : ∀ k, Nrm k l → ∀ i, inS l i = true → i + 1 < top k l := by
  induction l with
  | nil => intro k _ i h; simp [inS] at h
  | cons s l ih =>
    intro k h i hi
    rw [inS_cons] at hi
    have h9 := top_ge l _ h.2.2
    by_cases hl : inS l i = true
    · exact ih _ h.2.2 i hl
    · simp [hl] at hi
      simp only [top]; omega
theorem nrm_hi (l : List Sp) : ∀ k, Nrm k l → ∀ s ∈ l, s.hi < top k l ∧ s.lo < s.hi ∧ k ≤ s.lo := by
  induction l with
  | nil => intro k _ s hs; simp at hs
  | cons t l ih =>
    intro k h s hs
    have h9 := top_ge l _ h.2.2
    rcases List.mem_cons.1 hs with rfl | hs
    · simp only [top]; exact ⟨by omega, h.2.1, h.1⟩
    · have := ih _ h.2.2 s hs
      simp only [top]
      have := h.1; have := h.2.1
      omega
/-- What Joined does with one span. -/
def jstep (out : List Sp) (s : Sp) : List Sp :=
  if s.lo = s.hi then out else
    match out.getLast? with
    | none => [s]
    | some p => if s.lo ≤ p.hi then out.dropLast ++ [⟨p.lo, max p.hi s.hi⟩] else out ++ [s]
def joined (l : List Sp) : List Sp := l.foldl jstep []
theorem jstep_ok (out : List Sp) (s : Sp) (hn : Nrm 0 out) (hl : ∀ p ∈ out, p.lo ≤ s.lo) (hs : s.lo ≤ s.hi) :
    Nrm 0 (jstep out s) ∧ (∀ p ∈ jstep out s, p.lo ≤ s.lo) ∧ ∀ i, inS (jstep out s) i = (inS out i || (decide (s.lo ≤ i) && decide (i < s.hi))) := by
  unfold jstep
  by_cases h0 : s.lo = s.hi
  · rw [if_pos h0]
    refine ⟨hn, hl, fun i => ?_⟩
    have : (decide (s.lo ≤ i) && decide (i < s.hi)) = false := by
      by_cases a : s.lo ≤ i
      · have : ¬ i < s.hi := by omega
        simp [this]
      · simp [a]
    rw [this, Bool.or_false]
  · rw [if_neg h0]
    rcases List.eq_nil_or_concat out with rfl | ⟨o, p, rfl⟩
    · refine ⟨⟨Nat.zero_le _, by omega, trivial⟩, fun p hp => ?_, fun i => ?_⟩
      · simp at hp; subst hp; exact Nat.le_refl _
      · simp [inS]
    · simp only [List.concat_eq_append, List.getLast?_append, List.getLast?_singleton, Option.some_or, List.dropLast_concat] at *
      have hp := hl p (by simp)
      rw [nrm_append] at hn
      obtain ⟨n1, n2, n3, _⟩ := hn
      by_cases hh : s.lo ≤ p.hi
      · rw [if_pos hh]
        refine ⟨?_, fun q hq => ?_, fun i => ?_⟩
        · rw [nrm_append]
          exact ⟨n1, n2, by show p.lo < max p.hi s.hi; omega, trivial⟩
        · simp only [List.mem_append, List.mem_singleton] at hq
          rcases hq with hq | rfl
          · exact hl q (by simp [hq])
          · exact hp
        · simp only [inS_append, inS_cons, inS_nil, Bool.or_false, Bool.or_assoc]
          congr 1
          rw [Bool.eq_iff_iff]
          simp only [Bool.or_eq_true, Bool.and_eq_true, decide_eq_true_eq]
          omega
      · rw [if_neg hh]
        refine ⟨?_, fun q hq => ?_, fun i => ?_⟩
        · rw [List.append_assoc, nrm_append]
          exact ⟨n1, n2, n3, by show p.hi + 1 ≤ s.lo; omega, by omega, trivial⟩
        · simp only [List.mem_append, List.mem_singleton] at hq
          rcases hq with (hq | rfl) | rfl
          · exact hl q (by simp [hq])
          · exact hp
          · exact Nat.le_refl _
        · rw [inS_append (o ++ [p]), inS_cons, inS_nil, Bool.or_false]
/-- Spans that ascend by where they begin. -/
def Asc : Nat → List Sp → Prop
  | _, [] => True
  | b, s :: l => b ≤ s.lo ∧ s.lo ≤ s.hi ∧ Asc s.lo l
theorem Asc.mono {b b' : Nat} {l : List Sp} (h : Asc b l) (hb : b' ≤ b) : Asc b' l := by
  cases l with
  | nil => trivial
  | cons s l => exact ⟨Nat.le_trans hb h.1, h.2⟩
theorem jfold_ok (l : List Sp) : ∀ (out : List Sp) (b : Nat), Nrm 0 out → (∀ p ∈ out, p.lo ≤ b) → Asc b l →
    Nrm 0 (l.foldl jstep out) ∧ ∀ i, inS (l.foldl jstep out) i = (inS out i || inS l i) := by
  induction l with
  | nil => intro out b hn _ _; exact ⟨hn, fun i => by simp [inS]⟩
  | cons s l ih =>
    intro out b hn hl ha
    obtain ⟨a1, a2, a3⟩ := ha
    obtain ⟨j1, j2, j3⟩ := jstep_ok out s hn (fun p hp => Nat.le_trans (hl p hp) a1) a2
    obtain ⟨k1, k2⟩ := ih (jstep out s) s.lo j1 j2 a3
    refine ⟨k1, fun i => ?_⟩
    rw [List.foldl_cons, k2, j3, inS_cons, Bool.or_assoc]
theorem joined_ok (l : List Sp) (h : Asc 0 l) : Nrm 0 (joined l) ∧ ∀ i, inS (joined l) i = inS l i := by
  obtain ⟨h1, h2⟩ := jfold_ok l [] 0 trivial (by simp) h
  exact ⟨h1, fun i => by rw [joined, h2]; rfl⟩
theorem asc_append (a b : List Sp) : ∀ k, Asc k (a ++ b) ↔ Asc k a ∧ Asc ((a.getLast?.map Sp.lo).getD k) b := by
  induction a with
  | nil => intro k; simp [Asc]
  | cons s a ih =>
    intro k
    simp only [List.cons_append, Asc, ih, and_assoc]
    cases a with
    | nil => simp
    | cons t a => simp [List.getLast?_cons]
theorem Nrm.asc {l : List Sp} : ∀ {k : Nat}, Nrm k l → Asc k l := by
  induction l with
  | nil => intro k _; trivial
  | cons s l ih => intro k h; exact ⟨h.1, by have := h.2.1; omega, (ih h.2.2).mono (by have := h.2.1; omega)⟩
/-- What With makes of a set: the span put in ahead of the first that begins not before it. -/
theorem asc_put (l : List Sp) (s : Sp) (hs : s.lo ≤ s.hi) (i : Nat) (hi : i ≤ l.length) (h : Nrm 0 l) (hlt : ∀ j (hj : j < l.length), j < i → l[j].lo < s.lo) (hge : ∀ j (hj : j < l.length), i ≤ j → s.lo ≤ l[j].lo) :
    Asc 0 (l.take i ++ s :: l.drop i) ∧ ∀ k, inS (l.take i ++ s :: l.drop i) k = (inS l k || (decide (s.lo ≤ k) && decide (k < s.hi))) := by
  have ha : Asc 0 (l.take i ++ l.drop i) := by rw [List.take_append_drop]; exact h.asc
  rw [asc_append] at ha
  refine ⟨?_, fun k => ?_⟩
  · rw [asc_append]
    refine ⟨ha.1, ?_, hs, ?_⟩
    · rcases Nat.eq_zero_or_pos i with rfl | hp
      · simp
      · rw [List.getLast?_take, if_neg (by omega)]
        have hlt2 : i - 1 < l.length := by omega
        rw [List.getElem?_eq_getElem hlt2]
        simp only [Option.some_or, Option.map_some, Option.getD_some]
        exact Nat.le_of_lt (hlt (i - 1) hlt2 (by omega))
    · rcases Nat.lt_or_ge i l.length with hl | hl
      · rw [List.drop_eq_getElem_cons hl] at ha ⊢
        exact ⟨hge i hl (Nat.le_refl _), ha.2.2⟩
      · rw [List.drop_of_length_le hl]; trivial
  · have e : inS l k = inS (l.take i ++ l.drop i) k := by rw [List.take_append_drop]
    rw [e]
    simp only [inS_append, inS_cons]
    rw [Bool.or_assoc, Bool.or_comm (inS (l.drop i) k)]
/-- What Without makes of a set. -/
def cutL (x s : Sp) : Sp := ⟨x.lo, min x.hi (max x.lo s.lo)⟩
def cutR (x s : Sp) : Sp := ⟨max x.lo (min x.hi s.hi), x.hi⟩
def without (l : List Sp) (s : Sp) : List Sp := (l.flatMap fun x => [cutL x s, cutR x s]).filter fun x => decide (x.lo < x.hi)
theorem without_ok (s : Sp) (hs : s.lo < s.hi) (l : List Sp) : ∀ b, Nrm b l → Nrm b (without l s) ∧ ∀ i, inS (without l s) i = (inS l i && !(decide (s.lo ≤ i) && decide (i < s.hi))) := by
  induction l with
  | nil => intro b _; exact ⟨trivial, fun i => rfl⟩
  | cons x l ih =>
    intro b h
    obtain ⟨h1, h2, h3⟩ := h
    obtain ⟨i1, i2⟩ := ih _ h3
    have e : without (x :: l) s = ([cutL x s, cutR x s].filter fun x => decide (x.lo < x.hi)) ++ without l s := by
      simp only [without, List.flatMap_cons, List.filter_append]
    rw [e]
    generalize without l s = r at *
    have hh : ∀ i, (decide (x.lo ≤ i) && decide (i < x.hi) && !(decide (s.lo ≤ i) && decide (i < s.hi))) = ((decide ((cutL x s).lo ≤ i) && decide (i < (cutL x s).hi)) || (decide ((cutR x s).lo ≤ i) && decide (i < (cutR x s).hi))) := by
      intro i
      have e1 : i < (cutL x s).hi ↔ i < x.hi ∧ (i < x.lo ∨ i < s.lo) := by show i < min x.hi (max x.lo s.lo) ↔ _; omega
      have e2 : (cutR x s).lo ≤ i ↔ x.lo ≤ i ∧ (x.hi ≤ i ∨ s.hi ≤ i) := by show max x.lo (min x.hi s.hi) ≤ i ↔ _; omega
      have e3 : (cutL x s).lo = x.lo := rfl
      have e4 : (cutR x s).hi = x.hi := rfl
      rw [Bool.eq_iff_iff]
      simp only [e1, e2, e3, e4, Bool.or_eq_true, Bool.and_eq_true, decide_eq_true_eq, Bool.not_eq_true', Bool.and_eq_false_iff, decide_eq_false_iff_not]
      constructor
      · rintro ⟨⟨h1, h2⟩, h3⟩; omega
      · intro h; omega
    have hf : ∀ y : Sp, ¬ y.lo < y.hi → ∀ i, (decide (y.lo ≤ i) && decide (i < y.hi)) = false := by
      intro y hy i
      by_cases a : y.lo ≤ i
      · have : ¬ i < y.hi := by omega
        simp [this]
      · simp [a]
    refine ⟨?_, fun i => ?_⟩
    · by_cases p : (cutL x s).lo < (cutL x s).hi <;> by_cases q : (cutR x s).lo < (cutR x s).hi
      · simp only [List.filter_cons, p, q, decide_true, if_true, List.filter_nil, List.cons_append, List.nil_append]
        refine ⟨h1, p, ?_, q, i1⟩
        simp only [cutL, cutR] at *
        omega
      · simp only [List.filter_cons, p, q, decide_true, decide_false, if_true, List.filter_nil, List.cons_append, List.nil_append]
        refine ⟨h1, p, i1.mono ?_⟩
        simp only [cutL] at *
        omega
      · simp only [List.filter_cons, p, q, decide_true, decide_false, if_true, List.filter_nil, List.cons_append, List.nil_append]
        refine ⟨?_, q, i1⟩
        simp only [cutR] at *
        omega
      · simp only [List.filter_cons, p, q, decide_false, List.filter_nil, List.nil_append]
        exact i1.mono (by omega)
    · rw [inS_append, i2, inS_cons, Bool.and_or_distrib_right, hh]
      congr 1
      by_cases p : (cutL x s).lo < (cutL x s).hi <;> by_cases q : (cutR x s).lo < (cutR x s).hi
      · simp [List.filter_cons, p, q, inS]
      · rw [hf _ q]; simp [List.filter_cons, p, q, inS]
      · rw [hf _ p]; simp [List.filter_cons, p, q, inS]
      · rw [hf _ p, hf _ q]; simp [List.filter_cons, p, q, inS]
theorem without_cons (x : Sp) (l : List Sp) (s : Sp) : without (x :: l) s = ([cutL x s, cutR x s].filter fun x => decide (x.lo < x.hi)) ++ without l s := by
  simp only [without, List.flatMap_cons, List.filter_append]
theorem without_tail (s : Sp) (l : List Sp) : ∀ b, Nrm b l → s.lo ≤ b → (without l s).length ≤ l.length := by
  induction l with
  | nil => intro b _ _; exact Nat.le_refl _
  | cons x l ih =>
    intro b h hb
    have h1 := h.1
    have h2 := h.2.1
    have := ih _ h.2.2 (by omega)
    rw [without_cons, List.length_append, List.length_cons]
    have p : ¬ (cutL x s).lo < (cutL x s).hi := by simp only [cutL]; omega
    by_cases q : (cutR x s).lo < (cutR x s).hi <;> simp [List.filter_cons, p, q] <;> omega
theorem without_len (s : Sp) (hs : s.lo < s.hi) (l : List Sp) : ∀ b, Nrm b l → (without l s).length ≤ l.length + 1 := by
  induction l with
  | nil => intro b _; simp [without]
  | cons x l ih =>
    intro b h
    have h1 := h.1
    have h2 := h.2.1
    have i1 := ih _ h.2.2
    rw [without_cons, List.length_append, List.length_cons]
    by_cases p : (cutL x s).lo < (cutL x s).hi <;> by_cases q : (cutR x s).lo < (cutR x s).hi
    · have := without_tail s l _ h.2.2 (by simp only [cutL, cutR] at p q; omega)
      simp only [List.filter_cons, p, q, decide_true, if_true, List.filter_nil, List.length_cons, List.length_nil]; omega
    all_goals (simp [List.filter_cons, p, q]; omega)
theorem jfold_len (l : List Sp) : ∀ out : List Sp, (l.foldl jstep out).length ≤ out.length + l.length := by
  induction l with
  | nil => intro out; simp
  | cons s l ih =>
    intro out
    have h1 := ih (jstep out s)
    have h2 : (jstep out s).length ≤ out.length + 1 := by
      unfold jstep
      split
      · omega
      · split
        · simp
        · split <;> simp
    simp only [List.foldl_cons, List.length_cons]; omega
theorem joined_len (l : List Sp) : (joined l).length ≤ l.length := by
  have := jfold_len l []
  simpa [joined] using this
end Go.Proofs.Ytpjpckhmjonehaa
