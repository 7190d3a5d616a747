/-
  The plain mathematics of replacing: the parts between the places that are replaced. No program is spoken of here.
-/
import Derived.Test.YtacjckocjngfoaaFindC
namespace Go.Proofs.Ytacjckocjngfoaa
open Go.RowKit Fnd
set_option linter.unusedVariables false

/-- The parts of s ahead of each place taken, and where the rest begins. -/
def sg (s : List UInt8) (m : Nat) : Nat → List Nat → List (List UInt8) × Nat
  | a, [] => ([], a)
  | a, i :: L => if i < a then sg s m a L else ((s.drop a).take (i - a) :: (sg s m (i + m) L).1, (sg s m (i + m) L).2)
def flat (p : List UInt8) (ds : List (List UInt8)) : List UInt8 := (ds.map (· ++ p)).flatten
theorem flat_snoc (p : List UInt8) (ds : List (List UInt8)) (d : List UInt8) : flat p (ds ++ [d]) = flat p ds ++ (d ++ p) := by simp [flat]
theorem flat_cons (p : List UInt8) (ds : List (List UInt8)) (d : List UInt8) : flat p (d :: ds) = d ++ (p ++ flat p ds) := by simp [flat]
/-- Replaced by itself it is the text. -/
theorem sg_flat (s f : List UInt8) (m : Nat) : ∀ (L : List Nat) (a : Nat), (∀ i ∈ L, i ≤ s.length ∧ s.drop i = f ++ s.drop (i + m)) → s.drop a = flat f (sg s m a L).1 ++ s.drop (sg s m a L).2 := by
  intro L
  induction L with
  | nil => intro a _; simp [sg, flat]
  | cons i L ih =>
    intro a h
    simp only [sg]
    split
    · exact ih a (fun j hj => h j (List.mem_cons_of_mem _ hj))
    · obtain ⟨h1, h2⟩ := h i (List.mem_cons_self ..)
      simp only [flat_cons, List.append_assoc]
      rw [← ih (i + m) (fun j hj => h j (List.mem_cons_of_mem _ hj)), ← h2]
      have := List.take_append_drop (i - a) (s.drop a)
      rw [List.drop_drop, show a + (i - a) = i by omega] at this
      exact this.symm
theorem sg_le (s : List UInt8) (m : Nat) : ∀ (L : List Nat) (a : Nat), (sg s m a L).1.length ≤ L.length := by
  intro L
  induction L with
  | nil => intro a; simp [sg]
  | cons i L ih =>
    intro a
    simp only [sg]
    split
    · have := ih a; simp; omega
    · have := ih (i + m); simp; omega
/-- Where each place lies behind the one before, each is taken. -/
theorem sg_all (s : List UInt8) : ∀ (L : List Nat) (a : Nat), L.Pairwise (· < ·) → (∀ i ∈ L, a ≤ i) → (sg s 1 a L).1.length = L.length := by
  intro L
  induction L with
  | nil => intro a _ _; simp [sg]
  | cons i L ih =>
    intro a hp hge
    rw [List.pairwise_cons] at hp
    simp only [sg]
    have := hge i (List.mem_cons_self ..)
    rw [if_neg (by omega)]
    simp [ih (i + 1) hp.2 (fun j hj => by have := hp.1 j hj; omega)]
/-- Where the list holds all places at which f stands, f stands in no part. -/
theorem sg_none (s f : List UInt8) (m : Nat) (hm : 0 < m) (hf : f.length = m) : ∀ (L : List Nat) (a : Nat), L.Pairwise (· < ·) → (∀ q, a ≤ q → f <+: s.drop q → q ∈ L) →
    (∀ d ∈ (sg s m a L).1, ¬ f <:+: d) ∧ ¬ f <:+: s.drop (sg s m a L).2 := by
  intro L
  induction L with
  | nil =>
    intro a _ h
    simp only [sg]
    refine ⟨by simp, ?_⟩
    rintro ⟨x, y, hxy⟩
    have := h (a + x.length) (by omega) ⟨y, by rw [← List.drop_drop, ← hxy]; simp⟩
    simp at this
  | cons i L ih =>
    intro a hp h
    rw [List.pairwise_cons] at hp
    simp only [sg]
    split
    · exact ih a hp.2 (fun q hq hf => by
        have := h q hq hf
        rcases List.mem_cons.1 this with rfl | h2
        · omega
        · exact h2)
    · obtain ⟨h1, h2⟩ := ih (i + m) hp.2 (fun q hq hf => by
        have := h q (by omega) hf
        rcases List.mem_cons.1 this with rfl | h2
        · omega
        · exact h2)
      refine ⟨fun d hd => ?_, h2⟩
      rcases List.mem_cons.1 hd with rfl | hd
      · rintro ⟨x, y, hxy⟩
        have hlen := congrArg List.length hxy
        simp at hlen
        have hpre : f <+: s.drop (a + x.length) := by
          rw [← List.drop_drop]
          have h3 := List.take_append_drop (i - a) (s.drop a)
          rw [← h3, ← hxy]
          refine ⟨y ++ (s.drop a).drop (i - a), ?_⟩
          rw [List.append_assoc, List.append_assoc, List.drop_append]
          simp
        have := h (a + x.length) (by omega) hpre
        rcases List.mem_cons.1 this with e | h4
        · omega
        · have := hp.1 _ h4; omega
      · exact h1 d hd
theorem infix_cut (f x r : List UInt8) (c : UInt8) (hc : c ∉ f) (h : f <:+: x ++ c :: r) : f <:+: x ∨ f <:+: r := by
  obtain ⟨a, b, hab⟩ := h
  rw [List.append_assoc] at hab
  rcases List.append_eq_append_iff.1 hab with ⟨a', h1, h2⟩ | ⟨c', h1, h2⟩
  · -- x = a ++ a'
    rcases List.append_eq_append_iff.1 h2 with ⟨a2, h3, h4⟩ | ⟨c2, h3, h4⟩
    · left; exact ⟨a, a2, by rw [h1, h3, List.append_assoc]⟩
    · cases c2 with
      | nil => left; exact ⟨a, [], by rw [h1, h3]; simp⟩
      | cons y ys =>
        simp at h4
        exact absurd (by rw [h3, h4.1]; simp) hc
  · cases c' with
    | nil =>
      simp at h2
      cases f with
      | nil => left; exact List.nil_infix
      | cons y ys => simp at h2; exact absurd (by rw [← h2.1]; simp) hc
    | cons y ys =>
      simp at h2
      right; exact ⟨ys, b, by rw [h2.2]; simp⟩
theorem flat_infix (f : List UInt8) (c : UInt8) (hc : c ∉ f) : ∀ (ds : List (List UInt8)) (t : List UInt8), f <:+: flat [c] ds ++ t → (∃ d ∈ ds, f <:+: d) ∨ f <:+: t := by
  intro ds
  induction ds with
  | nil => intro t h; right; simpa [flat] using h
  | cons d ds ih =>
    intro t h
    rw [flat_cons, List.append_assoc, List.append_assoc] at h
    rcases infix_cut f d _ c hc h with h | h
    · exact .inl ⟨d, List.mem_cons_self .., h⟩
    · rcases ih t h with ⟨e, he, h⟩ | h
      · exact .inl ⟨e, List.mem_cons_of_mem _ he, h⟩
      · exact .inr h
/-- A text cut at a byte is cut in one way. -/
theorem cut_one (c : UInt8) : ∀ (ds es : List (List UInt8)) (t u : List UInt8), (∀ d ∈ ds, c ∉ d) → c ∉ t → (∀ e ∈ es, c ∉ e) → c ∉ u → flat [c] ds ++ t = flat [c] es ++ u → ds = es ∧ t = u := by
  have key : ∀ (x y a b : List UInt8), c ∉ x → c ∉ y → x ++ c :: a = y ++ c :: b → x = y ∧ a = b := by
    intro x
    induction x with
    | nil =>
      intro y a b _ hy h
      cases y with
      | nil => simp at h; exact ⟨rfl, h⟩
      | cons z zs => simp at h; exact absurd (by rw [h.1]; simp) hy
    | cons z zs ih =>
      intro y a b hx hy h
      cases y with
      | nil => simp at h; exact absurd (by rw [h.1]; simp) hx
      | cons z2 zs2 =>
        simp at h hx hy
        obtain ⟨h1, h2⟩ := ih zs2 a b hx.2 hy.2 h.2
        exact ⟨by rw [h.1, h1], h2⟩
  intro ds
  induction ds with
  | nil =>
    intro es t u _ ht _ _ h
    cases es with
    | nil => exact ⟨rfl, by simpa [flat] using h⟩
    | cons e es =>
      rw [flat_cons] at h
      simp [flat] at h
      exact absurd (by rw [h]; simp) ht
  | cons d ds ih =>
    intro es t u hd ht he hu h
    cases es with
    | nil =>
      rw [flat_cons] at h
      simp [flat] at h
      exact absurd (by rw [← h]; simp) hu
    | cons e es =>
      rw [flat_cons, flat_cons] at h
      simp only [List.append_assoc, List.cons_append, List.nil_append] at h
      obtain ⟨h1, h2⟩ := key d e _ _ (hd d (List.mem_cons_self ..)) (he e (List.mem_cons_self ..)) h
      obtain ⟨h3, h4⟩ := ih es t u (fun x hx => hd x (List.mem_cons_of_mem _ hx)) ht (fun x hx => he x (List.mem_cons_of_mem _ hx)) hu h2
      exact ⟨by rw [h1, h3], h4⟩
theorem flat_len (p : List UInt8) (ds : List (List UInt8)) : (flat p ds).length = (flat [] ds).length + ds.length * p.length := by
  induction ds with
  | nil => simp [flat]
  | cons d ds ih => rw [flat_cons, flat_cons]; simp only [List.length_append, ih, List.length_cons, List.length_nil, Nat.add_mul]; omega
theorem sg_pos (s : List UInt8) (m : Nat) (L : List Nat) : 0 < (sg s m 0 L).1.length ↔ 0 < L.length := by
  cases L with
  | nil => simp [sg]
  | cons i L => simp [sg]

/-- What the list of places says. -/
theorem occ_mem (s f : ByteArray) (hf : 0 < f.size) (q : Nat) : q ∈ occ s f ↔ f.data.toList <+: s.data.toList.drop q ∧ q + f.size ≤ s.size := by
  unfold occ
  rw [oc_filter _ _ _ hf, List.mem_filter, List.mem_range]
  have hl : s.data.toList.length = s.size := by simp
  have hlf : f.data.toList.length = f.size := by simp
  constructor
  · rintro ⟨h1, h2⟩
    have hq : q + f.size ≤ s.size := by omega
    have h3 := (ext_mt s f q hq).2 h2
    refine ⟨?_, hq⟩
    have h4 : (s.extract q (q + f.size)).data.toList = f.data.toList := by rw [h3]
    rw [show (s.extract q (q + f.size)).data.toList = (s.data.toList.drop q).take (q + f.size - q) by simp only [ByteArray.data_extract, Array.toList_extract, List.extract]] at h4
    rw [← h4]; exact List.take_prefix _ _
  · rintro ⟨⟨y, h1⟩, hq⟩
    refine ⟨by omega, (ext_mt s f q hq).1 ?_⟩
    apply bytes_ext
    rw [show (s.extract q (q + f.size)).data.toList = (s.data.toList.drop q).take (q + f.size - q) by simp only [ByteArray.data_extract, Array.toList_extract, List.extract]]
    rw [← h1, show q + f.size - q = f.data.toList.length by omega, List.take_left]
theorem occ_sorted (s f : ByteArray) (hf : 0 < f.size) : (occ s f).Pairwise (· < ·) := by
  unfold occ
  rw [oc_filter _ _ _ hf]
  exact List.Pairwise.filter _ List.pairwise_lt_range
theorem occ_at (s f : ByteArray) (hf : 0 < f.size) : ∀ i ∈ occ s f, i ≤ s.data.toList.length ∧ s.data.toList.drop i = f.data.toList ++ s.data.toList.drop (i + f.size) := by
  intro i hi
  obtain ⟨⟨y, h⟩, h2⟩ := (occ_mem s f hf i).1 hi
  have hl : s.data.toList.length = s.size := by simp
  have hlf : f.data.toList.length = f.size := by simp
  refine ⟨by omega, ?_⟩
  rw [← List.drop_drop, ← h, show f.size = f.data.toList.length by omega, List.drop_left]
theorem occ_all (s f : ByteArray) (hf : 0 < f.size) (q : Nat) (h : f.data.toList <+: s.data.toList.drop q) : q ∈ occ s f := by
  refine (occ_mem s f hf q).2 ⟨h, ?_⟩
  have := h.length_le
  have hlf : f.data.toList.length = f.size := by simp
  simp at this
  have hl : s.data.toList.length = s.size := by simp
  simp at hl hlf
  omega
theorem occ_nil (s f : ByteArray) (hf : 0 < f.size) (h : ¬ f.data.toList <:+: s.data.toList) : occ s f = [] := by
  apply List.eq_nil_iff_forall_not_mem.2
  intro q hq
  have := ((occ_mem s f hf q).1 hq).1
  exact h (this.isInfix.trans (List.drop_suffix _ _).isInfix)
/-- s with f replaced by p. -/
def segs (s f : ByteArray) : List (List UInt8) × Nat := sg s.data.toList f.size 0 (occ s f)
def repl (s f p : ByteArray) : List UInt8 := flat p.data.toList (segs s f).1 ++ s.data.toList.drop (segs s f).2
theorem repl_self (s f : ByteArray) (hf : 0 < f.size) : repl s f f = s.data.toList := by
  have := sg_flat s.data.toList f.data.toList f.size (occ s f) 0 (occ_at s f hf)
  simp only [List.drop_zero] at this
  exact this.symm
theorem segs_none (s f : ByteArray) (hf : 0 < f.size) : (∀ d ∈ (segs s f).1, ¬ f.data.toList <:+: d) ∧ ¬ f.data.toList <:+: s.data.toList.drop (segs s f).2 :=
  sg_none _ _ _ hf (by simp) _ _ (occ_sorted s f hf) (fun q _ h => occ_all s f hf q h)
theorem repl_none (s f p : ByteArray) (hf : 0 < f.size) (c : UInt8) (hp : p.data.toList = [c]) (hc : c ∉ f.data.toList) : occ ⟨(repl s f p).toArray⟩ f = [] := by
  apply occ_nil _ _ hf
  intro h
  have h2 : f.data.toList <:+: flat [c] (segs s f).1 ++ s.data.toList.drop (segs s f).2 := by rw [← hp]; exact h
  obtain ⟨h3, h4⟩ := segs_none s f hf
  rcases flat_infix _ c hc _ _ h2 with ⟨d, hd, h⟩ | h
  · exact h3 d hd h
  · exact h4 h
theorem mem_infix (c : UInt8) (l : List UInt8) : [c] <:+: l ↔ c ∈ l := by
  constructor
  · rintro ⟨a, b, h⟩; rw [← h]; simp
  · intro h
    obtain ⟨a, b, rfl⟩ := List.append_of_mem h
    exact ⟨a, b, by simp⟩
theorem segs_sub (s : List UInt8) (m : Nat) : ∀ (L : List Nat) (a : Nat) (c : UInt8), c ∉ s → (∀ d ∈ (sg s m a L).1, c ∉ d) ∧ c ∉ s.drop (sg s m a L).2 := by
  intro L
  induction L with
  | nil => intro a c h; simp only [sg]; exact ⟨by simp, fun h2 => h (List.mem_of_mem_drop h2)⟩
  | cons i L ih =>
    intro a c h
    simp only [sg]
    split
    · exact ih a c h
    · obtain ⟨h1, h2⟩ := ih (i + m) c h
      refine ⟨fun d hd => ?_, h2⟩
      rcases List.mem_cons.1 hd with rfl | hd
      · exact fun h3 => h (List.mem_of_mem_drop (List.mem_of_mem_take h3))
      · exact h1 d hd
/-- The way back: by a byte c that is not in the text, and then the other way round. -/
theorem repl_back (s f p : ByteArray) (hf : 0 < f.size) (c : UInt8) (hp : p.data.toList = [c]) (hs : c ∉ s.data.toList) :
    (segs ⟨(repl s f p).toArray⟩ p).1 = (segs s f).1 ∧ repl ⟨(repl s f p).toArray⟩ p f = s.data.toList ∧ (occ ⟨(repl s f p).toArray⟩ p).length = (segs s f).1.length := by
  have hp1 : p.size = 1 := by have := congrArg List.length hp; simpa using this
  generalize ht : (⟨(repl s f p).toArray⟩ : ByteArray) = t
  have htl : t.data.toList = flat [c] (segs s f).1 ++ s.data.toList.drop (segs s f).2 := by rw [← ht, ← hp]; rfl
  obtain ⟨a1, a2⟩ : (∀ d ∈ (segs s f).1, c ∉ d) ∧ c ∉ s.data.toList.drop (segs s f).2 := segs_sub s.data.toList f.size (occ s f) 0 c hs
  obtain ⟨b1, b2⟩ := segs_none t p (by omega)
  have hself := repl_self t p (by omega)
  have hs3 : flat p.data.toList (segs t p).1 ++ t.data.toList.drop (segs t p).2 = t.data.toList := hself
  rw [hp] at hs3
  have hself2 := hs3.trans htl
  rw [hp] at b1 b2
  obtain ⟨h1, h2⟩ := cut_one c _ _ _ _ (fun d hd h => b1 d hd ((mem_infix c d).2 h)) (fun h => b2 ((mem_infix c _).2 h)) a1 a2 hself2
  refine ⟨h1, ?_, ?_⟩
  · have := repl_self s f hf
    rw [← this]
    unfold repl
    rw [h1, h2]
  · rw [← show (segs t p).1 = (segs s f).1 from h1]
    unfold segs
    rw [hp1]
    exact (sg_all _ _ 0 (occ_sorted t p (by omega)) (fun i _ => Nat.zero_le _)).symm
end Go.Proofs.Ytacjckocjngfoaa
