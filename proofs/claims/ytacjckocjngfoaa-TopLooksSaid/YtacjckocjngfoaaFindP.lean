/-
  The plain mathematics of borders and of finding a text in another one (Knuth, Morris and Pratt). No Go and no program is spoken of here.
-/
set_option linter.unusedVariables false
namespace Go.Proofs.Ytacjckocjngfoaa.Fnd

/-- The beginning of i bytes has a border of k bytes. -/
def Bd (f : Nat → UInt8) (i k : Nat) : Prop := k < i ∧ ∀ j, j < k → f j = f (i - k + j)
/-- n is its longest border. -/
def Mx (f : Nat → UInt8) (i n : Nat) : Prop := Bd f i n ∧ ∀ k, Bd f i k → k ≤ n
theorem bd_zero (f : Nat → UInt8) (i : Nat) (h : 0 < i) : Bd f i 0 := ⟨h, fun j hj => by omega⟩
theorem bd_succ (f : Nat → UInt8) (i k : Nat) : Bd f (i + 1) (k + 1) ↔ Bd f i k ∧ f k = f i := by
  constructor
  · rintro ⟨h1, h2⟩
    refine ⟨⟨by omega, fun j hj => ?_⟩, ?_⟩
    · have := h2 j (by omega)
      rwa [show i + 1 - (k + 1) + j = i - k + j by omega] at this
    · have := h2 k (by omega)
      rwa [show i + 1 - (k + 1) + k = i by omega] at this
  · rintro ⟨⟨h1, h2⟩, h3⟩
    refine ⟨by omega, fun j hj => ?_⟩
    rw [show i + 1 - (k + 1) + j = i - k + j by omega]
    rcases Nat.lt_or_ge j k with h | h
    · exact h2 j h
    · obtain rfl : j = k := by omega
      rw [h3]; congr 1; omega
theorem bd_in (f : Nat → UInt8) (i n k : Nat) (hn : Bd f i n) (hk : k < n) : Bd f i k ↔ Bd f n k := by
  obtain ⟨n1, n2⟩ := hn
  constructor
  · rintro ⟨h1, h2⟩
    refine ⟨hk, fun j hj => ?_⟩
    rw [h2 j hj, n2 (n - k + j) (by omega)]; congr 1; omega
  · rintro ⟨h1, h2⟩
    refine ⟨by omega, fun j hj => ?_⟩
    rw [h2 j hj, n2 (n - k + j) (by omega)]; congr 1; omega
theorem mx_one (f : Nat → UInt8) : Mx f 1 0 := ⟨bd_zero f 1 (by omega), fun k hk => by have := hk.1; omega⟩
/-- What the inner loop of border keeps. -/
def In1 (f : Nat → UInt8) (i n : Nat) : Prop := Bd f i n ∧ ∀ k, Bd f i k → f k = f i → k ≤ n
theorem in1_start (f : Nat → UInt8) (i n : Nat) (h : Mx f i n) : In1 f i n := ⟨h.1, fun k h1 _ => h.2 k h1⟩
theorem in1_step (f : Nat → UInt8) (i n m : Nat) (h : In1 f i n) (hne : f i ≠ f n) (hm : Mx f n m) : In1 f i m := by
  obtain ⟨h1, h2⟩ := h
  have hmn : m < n := hm.1.1
  refine ⟨(bd_in f i n m h1 hmn).2 hm.1, fun k hk he => ?_⟩
  have hkn := h2 k hk he
  have : k ≠ n := fun e => hne (by rw [← he, e])
  exact hm.2 k ((bd_in f i n k h1 (by omega)).1 hk)
theorem in1_yes (f : Nat → UInt8) (i n : Nat) (h : In1 f i n) (he : f i = f n) : Mx f (i + 1) (n + 1) := by
  refine ⟨(bd_succ f i n).2 ⟨h.1, he.symm⟩, fun k hk => ?_⟩
  rcases k with _ | k
  · omega
  · have := (bd_succ f i k).1 hk
    have := h.2 k this.1 this.2
    omega
theorem in1_no (f : Nat → UInt8) (i n : Nat) (h : In1 f i n) (h0 : n = 0) (he : f i ≠ f n) : Mx f (i + 1) 0 := by
  refine ⟨bd_zero f _ (by omega), fun k hk => ?_⟩
  rcases k with _ | k
  · omega
  · have h3 := (bd_succ f i k).1 hk
    have := h.2 k h3.1 h3.2
    have : k = 0 := by omega
    subst this; subst h0
    exact absurd h3.2.symm he

/-- Behind i bytes of g stand the first k bytes of h. -/
def Sf (g h : Nat → UInt8) (i k : Nat) : Prop := k ≤ i ∧ ∀ j, j < k → h j = g (i - k + j)
theorem sf_zero (g h : Nat → UInt8) (i : Nat) : Sf g h i 0 := ⟨Nat.zero_le _, fun j hj => by omega⟩
theorem sf_succ (g h : Nat → UInt8) (i k : Nat) : Sf g h (i + 1) (k + 1) ↔ Sf g h i k ∧ h k = g i := by
  constructor
  · rintro ⟨h1, h2⟩
    refine ⟨⟨by omega, fun j hj => ?_⟩, ?_⟩
    · have := h2 j (by omega)
      rwa [show i + 1 - (k + 1) + j = i - k + j by omega] at this
    · have := h2 k (by omega)
      rwa [show i + 1 - (k + 1) + k = i by omega] at this
  · rintro ⟨⟨h1, h2⟩, h3⟩
    refine ⟨by omega, fun j hj => ?_⟩
    rw [show i + 1 - (k + 1) + j = i - k + j by omega]
    rcases Nat.lt_or_ge j k with h | h
    · exact h2 j h
    · obtain rfl : j = k := by omega
      rw [h3]; congr 1; omega
theorem sf_in (g h : Nat → UInt8) (i n k : Nat) (hn : Sf g h i n) (hk : k < n) : Sf g h i k ↔ Bd h n k := by
  obtain ⟨n1, n2⟩ := hn
  constructor
  · rintro ⟨h1, h2⟩
    refine ⟨hk, fun j hj => ?_⟩
    rw [h2 j hj, n2 (n - k + j) (by omega)]; congr 1; omega
  · rintro ⟨h1, h2⟩
    refine ⟨by omega, fun j hj => ?_⟩
    rw [h2 j hj, n2 (n - k + j) (by omega)]; congr 1; omega
/-- What the outer loop of In keeps: the longest. -/
def St (g h : Nat → UInt8) (m i n : Nat) : Prop := n ≤ m ∧ Sf g h i n ∧ ∀ k, k ≤ m → Sf g h i k → k ≤ n
def In2 (g h : Nat → UInt8) (m i n : Nat) : Prop := n ≤ m ∧ Sf g h i n ∧ ∀ k, k < m → Sf g h i k → h k = g i → k ≤ n
theorem st0 (g h : Nat → UInt8) (m : Nat) : St g h m 0 0 := ⟨Nat.zero_le _, sf_zero g h 0, fun k _ hk => hk.1⟩
theorem in2_start (g h : Nat → UInt8) (m i n : Nat) (hs : St g h m i n) : In2 g h m i n := ⟨hs.1, hs.2.1, fun k h1 h2 _ => hs.2.2 k (by omega) h2⟩
theorem in2_step (g h : Nat → UInt8) (m i n n' : Nat) (hs : In2 g h m i n) (hne : n = m ∨ g i ≠ h n) (hm : Mx h n n') : In2 g h m i n' := by
  obtain ⟨h0, h1, h2⟩ := hs
  have hlt : n' < n := hm.1.1
  refine ⟨by omega, (sf_in g h i n n' h1 hlt).2 hm.1, fun k hk hsk he => ?_⟩
  have hkn := h2 k hk hsk he
  have : k ≠ n := by
    rintro rfl
    rcases hne with h | h
    · omega
    · exact h he.symm
  exact hm.2 k ((sf_in g h i n k h1 (by omega)).1 hsk)
theorem in2_yes (g h : Nat → UInt8) (m i n : Nat) (hs : In2 g h m i n) (hn : n < m) (he : g i = h n) : St g h m (i + 1) (n + 1) := by
  refine ⟨by omega, (sf_succ g h i n).2 ⟨hs.2.1, he.symm⟩, fun k hk hsk => ?_⟩
  rcases k with _ | k
  · omega
  · have h3 := (sf_succ g h i k).1 hsk
    have := hs.2.2 k (by omega) h3.1 h3.2
    omega
theorem in2_no (g h : Nat → UInt8) (m i n : Nat) (hs : In2 g h m i n) (h0 : n = 0) (he : g i ≠ h n) : St g h m (i + 1) 0 := by
  refine ⟨Nat.zero_le _, sf_zero g h _, fun k hk hsk => ?_⟩
  rcases k with _ | k
  · omega
  · have h3 := (sf_succ g h i k).1 hsk
    have := hs.2.2 k (by omega) h3.1 h3.2
    have : k = 0 := by omega
    subst this; subst h0
    exact absurd h3.2.symm he
/-- h stands at p. -/
def mt (g h : Nat → UInt8) (m p : Nat) : Bool := (List.range m).all fun j => h j == g (p + j)
theorem mt_iff (g h : Nat → UInt8) (m p : Nat) : mt g h m p = true ↔ ∀ j, j < m → h j = g (p + j) := by
  simp [mt, List.all_eq_true]
theorem sf_mt (g h : Nat → UInt8) (m i : Nat) (hi : m ≤ i) : Sf g h i m ↔ mt g h m (i - m) = true := by
  rw [mt_iff]; exact ⟨fun hs => hs.2, fun hs => ⟨hi, hs⟩⟩
/-- The places at which h stands within the first i bytes of g. -/
def oc (g h : Nat → UInt8) (m : Nat) : Nat → List Nat
  | 0 => []
  | i + 1 => oc g h m i ++ if m ≤ i + 1 ∧ mt g h m (i + 1 - m) = true then [i + 1 - m] else []
theorem oc_yes (g h : Nat → UInt8) (m i : Nat) (hs : St g h m (i + 1) m) : oc g h m (i + 1) = oc g h m i ++ [i + 1 - m] := by
  have hi : m ≤ i + 1 := hs.2.1.1
  simp only [oc]; rw [if_pos ⟨hi, (sf_mt g h m _ hi).1 hs.2.1⟩]
theorem oc_no (g h : Nat → UInt8) (m i n : Nat) (hs : St g h m (i + 1) n) (hn : n ≠ m) : oc g h m (i + 1) = oc g h m i := by
  simp only [oc]; rw [if_neg, List.append_nil]
  rintro ⟨h1, h2⟩
  have := hs.2.2 m (Nat.le_refl _) ((sf_mt g h m _ h1).2 h2)
  have := hs.1
  omega
theorem oc_len (g h : Nat → UInt8) (m : Nat) : ∀ i, (oc g h m i).length ≤ i := by
  intro i
  induction i with
  | zero => simp [oc]
  | succ i ih => simp only [oc, List.length_append]; split <;> simp <;> omega
theorem oc_bd (g h : Nat → UInt8) (m : Nat) : ∀ i, ∀ p ∈ oc g h m i, p + m ≤ i := by
  intro i
  induction i with
  | zero => simp [oc]
  | succ i ih =>
    intro p hp
    simp only [oc, List.mem_append] at hp
    rcases hp with hp | hp
    · have := ih p hp; omega
    · split at hp
      · simp at hp; omega
      · simp at hp
/-- The same places, as a part of all. -/
theorem oc_filter (g h : Nat → UInt8) (m : Nat) (hm : 0 < m) : ∀ i, oc g h m i = (List.range (i + 1 - m)).filter (mt g h m) := by
  intro i
  induction i with
  | zero => rw [show 0 + 1 - m = 0 by omega]; simp [oc]
  | succ i ih =>
    simp only [oc, ih]
    by_cases h1 : m ≤ i + 1
    · rw [show i + 1 + 1 - m = (i + 1 - m) + 1 by omega, List.range_succ, List.filter_append]
      congr 1
      by_cases h2 : mt g h m (i + 1 - m) = true
      · rw [if_pos ⟨h1, h2⟩]; simp [h2]
      · rw [if_neg (fun h => h2 h.2)]; simp [h2]
    · rw [if_neg (fun h => h1 h.1), show i + 1 + 1 - m = i + 1 - m by omega, List.append_nil]
end Go.Proofs.Ytacjckocjngfoaa.Fnd
