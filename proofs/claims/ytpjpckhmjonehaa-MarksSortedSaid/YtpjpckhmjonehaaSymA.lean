/-
  Merging two sorted parts of a row in place by turning its middle (the sort library's symMerge), plain: no program is spoken of here.
-/
import Derived.Test.YtpjpckhmjonehaaBase
import Derived.Sort.LotA
namespace Go.Proofs.Ytpjpckhmjonehaa
open Go.Sort
set_option linter.unusedVariables false
set_option linter.unusedSimpArgs false

section
variable {α : Type} [Inhabited α]
/-- What lies at q when n elements at x and n at y have changed places. -/
def srAt (d : Array α) (x y n q : Nat) : α := if x ≤ q ∧ q < x + n then d[q + (y - x)]! else if y ≤ q ∧ q < y + n then d[q - (y - x)]! else d[q]!
/-- What lies at q when [a, m) and [m, b) have changed places. -/
def rotAt (d : Array α) (a m b q : Nat) : α := if q < a ∨ b ≤ q then d[q]! else if q < a + (b - m) then d[q + (m - a)]! else d[q - (b - m)]!
theorem sr_zero (d : Array α) (x y q : Nat) : srAt d x y 0 q = d[q]! := by unfold srAt; rw [if_neg (by omega), if_neg (by omega)]
/-- One exchange more. -/
theorem sr_succ (d dk : Array α) (x y n k : Nat) (hxy : x + n ≤ y) (hk : k < n) (hy : y + n ≤ d.size) (hs : dk.size = d.size) (h : ∀ q, dk[q]! = srAt d x y k q) :
    ∀ q, (swp dk (x + k) (y + k))[q]! = srAt d x y (k + 1) q := by
  intro q
  rw [swp_get dk (by omega) (by omega)]
  by_cases h1 : q = y + k
  · subst h1
    rw [if_pos rfl, h]
    unfold srAt
    rw [if_neg (by omega), if_neg (by omega), if_neg (by omega), if_pos (by omega)]
    congr 1; omega
  · rw [if_neg h1]
    by_cases h2 : q = x + k
    · subst h2
      rw [if_pos rfl, h]
      unfold srAt
      rw [if_neg (by omega), if_neg (by omega), if_pos (by omega)]
      congr 1; omega
    · rw [if_neg h2, h]
      unfold srAt
      by_cases c1 : x ≤ q ∧ q < x + k
      · rw [if_pos c1, if_pos (show x ≤ q ∧ q < x + (k + 1) by omega)]
      · rw [if_neg c1, if_neg (show ¬ (x ≤ q ∧ q < x + (k + 1)) by omega)]
        by_cases c2 : y ≤ q ∧ q < y + k
        · rw [if_pos c2, if_pos (by omega)]
        · rw [if_neg c2, if_neg (show ¬ (y ≤ q ∧ q < y + (k + 1)) by omega)]
/-- The left part is the longer one. -/
theorem rot_left (d dk : Array α) (i j m : Nat) (hi : i ≤ m) (hj : j < i) (h : ∀ q, dk[q]! = srAt d (m - i) m j q) : ∀ q, rotAt dk (m - (i - j)) m (m + j) q = rotAt d (m - i) m (m + j) q := by
  intro q
  unfold rotAt
  simp only [h]
  unfold srAt
  (repeat' split) <;> first | rfl | (exfalso; omega) | (congr 1; omega)
/-- The right part is the longer one. -/
theorem rot_right (d dk : Array α) (i j m : Nat) (hi : i ≤ m) (hj : i < j) (h : ∀ q, dk[q]! = srAt d (m - i) (m + j - i) i q) : ∀ q, rotAt dk (m - i) m (m + (j - i)) q = rotAt d (m - i) m (m + j) q := by
  intro q
  unfold rotAt
  simp only [h]
  unfold srAt
  (repeat' split) <;> first | rfl | (exfalso; omega) | (congr 1; omega)
/-- Both are as long. -/
theorem rot_even (d : Array α) (i m : Nat) (hi : i ≤ m) : ∀ q, srAt d (m - i) m i q = rotAt d (m - i) m (m + i) q := by
  intro q
  unfold rotAt
  unfold srAt
  (repeat' split) <;> first | rfl | (exfalso; omega) | (congr 1; omega)
theorem rot_none_left (d : Array α) (a b : Nat) (h : a ≤ b) (q : Nat) : rotAt d a a b q = d[q]! := by
  unfold rotAt
  by_cases c1 : q < a ∨ b ≤ q
  · rw [if_pos c1]
  · rw [if_neg c1, if_pos (by omega), Nat.sub_self, Nat.add_zero]
theorem rot_none_right (d : Array α) (a b : Nat) (h : a ≤ b) (q : Nat) : rotAt d a b b q = d[q]! := by
  unfold rotAt
  by_cases c1 : q < a ∨ b ≤ q
  · rw [if_pos c1]
  · rw [if_neg c1, if_neg (by omega), Nat.sub_self, Nat.sub_zero]
/-- An element goes one place up, or down. -/
theorem rot_up (d dk : Array α) (a k : Nat) (hk : a ≤ k) (hks : k + 1 < d.size) (hs : dk.size = d.size) (h : ∀ q, dk[q]! = rotAt d a (a + 1) (k + 1) q) : ∀ q, (swp dk k (k + 1))[q]! = rotAt d a (a + 1) (k + 2) q := by
  intro q
  rw [swp_get dk (by omega) (by omega)]
  simp only [h]
  unfold rotAt
  (repeat' split) <;> first | rfl | (exfalso; omega) | (congr 1; omega)
theorem rot_dn (d dk : Array α) (m k : Nat) (hk : k + 1 ≤ m) (hm : m < d.size) (hs : dk.size = d.size) (h : ∀ q, dk[q]! = rotAt d (k + 1) m (m + 1) q) : ∀ q, (swp dk (k + 1) k)[q]! = rotAt d k m (m + 1) q := by
  intro q
  rw [swp_get dk (by omega) (by omega)]
  simp only [h]
  unfold rotAt
  (repeat' split) <;> first | rfl | (exfalso; omega) | (congr 1; omega)
/-- Sorted, at places that may be one. -/
theorem sortedIn_le {lt : α → α → Bool} (hO : SWO lt) {a b : Nat} {d : Array α} (h : SortedIn lt a b d) {i j : Nat} (h1 : a ≤ i) (h2 : i ≤ j) (h3 : j < b) : lt d[j]! d[i]! = false := by
  rcases Nat.lt_or_ge i j with q | q
  · exact h i j h1 q h3
  · have : i = j := by omega
    subst this; exact hO.irrefl _
/-- What the halving finds parts both runs so that nothing right of the parting is less than what is left of it. -/
theorem sym_cross {lt : α → α → Bool} (hO : SWO lt) (d : Array α) (a m b mid lo hi st : Nat) (hm : mid = (a + b) / 2) (ham : a < m) (hmb : m < b)
    (hlo : lo = if mid < m then mid + m - b else a) (hhi : hi = if mid < m then mid else m)
    (h1 : lo ≤ st) (h2 : st ≤ hi) (c1 : st = lo ∨ lt d[mid + m - st]! d[st - 1]! = false) (c2 : st = hi ∨ lt d[mid + m - 1 - st]! d[st]! = true)
    (hu : SortedIn lt a m d) (hv : SortedIn lt m b d) :
    a ≤ st ∧ st ≤ m ∧ st ≤ mid ∧ m ≤ mid + m - st ∧ mid + m - st ≤ b ∧ ∀ i j, (a ≤ i ∧ i < st ∨ m ≤ i ∧ i < mid + m - st) → (st ≤ j ∧ j < m ∨ mid + m - st ≤ j ∧ j < b) → lt d[j]! d[i]! = false := by
  have g1 : a ≤ st := by split at hlo <;> omega
  have g2 : st ≤ m := by split at hhi <;> omega
  have g5 : st ≤ mid := by split at hhi <;> omega
  have g3 : m ≤ mid + m - st := by omega
  have g4 : mid + m - st ≤ b := by split at hlo <;> omega
  refine ⟨g1, g2, g5, g3, g4, fun i j hi hj => ?_⟩
  rcases hi with ⟨i1, i2⟩ | ⟨i1, i2⟩ <;> rcases hj with ⟨j1, j2⟩ | ⟨j1, j2⟩
  · exact sortedIn_le hO hu i1 (by omega) j2
  · rcases c1 with c1 | c1
    · exfalso; split at hlo <;> omega
    · have e1 := sortedIn_le hO hu (i := i) (j := st - 1) i1 (by omega) (by omega)
      have e2 := sortedIn_le hO hv (i := mid + m - st) (j := j) g3 j1 j2
      exact hO.ntrans _ _ _ (hO.ntrans _ _ _ e2 c1) e1
  · rcases c2 with c2 | c2
    · exfalso; split at hhi <;> omega
    · have e1 := sortedIn_le hO hv (i := i) (j := mid + m - 1 - st) i1 (by omega) (by omega)
      have e2 := sortedIn_le hO hu (i := st) (j := j) g1 j1 j2
      exact hO.ntrans _ _ _ (hO.ntrans _ _ _ e2 (hO.asymmA c2)) e1
  · exact sortedIn_le hO hv i1 (by omega) j2
/-- A turned row's runs. -/
theorem rot_runs {lt : α → α → Bool} (hO : SWO lt) (d d1 : Array α) (a st m e b mid : Nat) (ha : a ≤ st) (hst : st ≤ m) (hme : m ≤ e) (heb : e ≤ b) (hmid : mid = st + (e - m)) (h : ∀ q, d1[q]! = rotAt d st m e q)
    (hu : SortedIn lt a m d) (hv : SortedIn lt m b d)
    (hc : ∀ i j, (a ≤ i ∧ i < st ∨ m ≤ i ∧ i < e) → (st ≤ j ∧ j < m ∨ e ≤ j ∧ j < b) → lt d[j]! d[i]! = false) :
    SortedIn lt a st d1 ∧ SortedIn lt st mid d1 ∧ SortedIn lt mid e d1 ∧ SortedIn lt e b d1 ∧ ∀ i j, a ≤ i → i < mid → mid ≤ j → j < b → lt d1[j]! d1[i]! = false := by
  have f1 : ∀ q, q < st ∨ e ≤ q → d1[q]! = d[q]! := fun q hq => by rw [h]; unfold rotAt; rw [if_pos hq]
  have f2 : ∀ q, st ≤ q → q < mid → d1[q]! = d[q + (m - st)]! := fun q h1 h2 => by rw [h]; unfold rotAt; rw [if_neg (by omega), if_pos (by omega)]
  have f3 : ∀ q, mid ≤ q → q < e → d1[q]! = d[q - (e - m)]! := fun q h1 h2 => by rw [h]; unfold rotAt; rw [if_neg (by omega), if_neg (by omega)]
  refine ⟨fun i j h1 h2 h3 => ?_, fun i j h1 h2 h3 => ?_, fun i j h1 h2 h3 => ?_, fun i j h1 h2 h3 => ?_, fun i j h1 h2 h3 h4 => ?_⟩
  · rw [f1 i (by omega), f1 j (by omega)]; exact hu i j h1 h2 (by omega)
  · rw [f2 i h1 (by omega), f2 j (by omega) h3]; exact hv _ _ (by omega) (by omega) (by omega)
  · rw [f3 i h1 (by omega), f3 j (by omega) h3]; exact hu _ _ (by omega) (by omega) (by omega)
  · rw [f1 i (by omega), f1 j (by omega)]; exact hv i j (by omega) h2 h3
  · have key : ∀ x y, (a ≤ x ∧ x < st ∨ m ≤ x ∧ x < e) → (st ≤ y ∧ y < m ∨ e ≤ y ∧ y < b) → d1[i]! = d[x]! → d1[j]! = d[y]! → lt d1[j]! d1[i]! = false := fun x y hx hy e1 e2 => by rw [e1, e2]; exact hc x y hx hy
    rcases Nat.lt_or_ge i st with q1 | q1
    · rcases Nat.lt_or_ge j e with q2 | q2
      · exact key i (j - (e - m)) (by omega) (by omega) (f1 i (by omega)) (f3 j h3 q2)
      · exact key i j (by omega) (by omega) (f1 i (by omega)) (f1 j (by omega))
    · rcases Nat.lt_or_ge j e with q2 | q2
      · exact key (i + (m - st)) (j - (e - m)) (by omega) (by omega) (f2 i q1 h2) (f3 j h3 q2)
      · exact key (i + (m - st)) j (by omega) (by omega) (f2 i q1 h2) (f1 j (by omega))
/-- Two runs of which one is empty. -/
theorem sorted_one {lt : α → α → Bool} {d : Array α} {a x b : Nat} (h1 : SortedIn lt a x d) (h2 : SortedIn lt x b d) (h : a = x ∨ x = b) : SortedIn lt a b d := by
  rcases h with rfl | rfl
  · exact h2
  · exact h1
/-- Both halves put in order. -/
theorem halves {lt : α → α → Bool} (d1 d2 d3 : Array α) (a mid b : Nat) (ha : a ≤ mid) (hb : mid ≤ b) (hbs : b ≤ d1.size) (hc : ∀ i j, a ≤ i → i < mid → mid ≤ j → j < b → lt d1[j]! d1[i]! = false)
    (p1 : PermIn a mid d1 d2) (s1 : SortedIn lt a mid d2) (p2 : PermIn mid b d2 d3) (s2 : SortedIn lt mid b d3) : PermIn a b d1 d3 ∧ SortedIn lt a b d3 := by
  have hs2 : d2.size = d1.size := p1.1
  refine ⟨permIn_trans _ _ _ _ _ (permIn_mono d1 d2 a mid a b (Nat.le_refl _) hb hbs p1) (permIn_mono d2 d3 mid b a b ha (Nat.le_refl _) (by omega) p2), fun i j h1 h2 h3 => ?_⟩
  have e1 : ∀ q, q < mid → d3[q]! = d2[q]! := fun q hq => p2.2.1 q (.inl hq)
  rcases Nat.lt_or_ge j mid with q | q
  · rw [e1 i (by omega), e1 j q]; exact s1 i j h1 h2 q
  · rcases Nat.lt_or_ge i mid with r | r
    · rw [e1 i r]
      have k1 : ∀ y, mid ≤ y → y < b → lt d2[y]! d2[i]! = false := fun y hy1 hy2 => by
        rw [p1.2.1 y (.inr hy1)]
        exact permIn_all d1 d2 a mid (fun x => lt d1[y]! x = false) (by omega) p1 (fun x hx1 hx2 => hc x y hx1 hx2 hy1 hy2) i h1 r
      exact permIn_all d2 d3 mid b (fun x => lt x d2[i]! = false) (by omega) p2 k1 j q h3
    · exact s2 i j r h2 h3
/-- One element put into the run behind it. -/
theorem one_left {lt : α → α → Bool} (hO : SWO lt) (d d1 : Array α) (a i b : Nat) (hi : a + 1 ≤ i) (hib : i ≤ b) (h : ∀ q, d1[q]! = rotAt d a (a + 1) i q) (hv : SortedIn lt (a + 1) b d)
    (c1 : i = a + 1 ∨ lt d[i - 1]! d[a]! = true) (c2 : i = b ∨ lt d[i]! d[a]! = false) : SortedIn lt a b d1 := by
  have f1 : ∀ q, a ≤ q → q < i - 1 → d1[q]! = d[q + 1]! := fun q h1 h2 => by rw [h]; unfold rotAt; rw [if_neg (by omega), if_pos (by omega)]; congr 1; omega
  have f2 : d1[i - 1]! = d[a]! := by rw [h]; unfold rotAt; rw [if_neg (by omega), if_neg (by omega)]; congr 1; omega
  have f3 : ∀ q, i ≤ q → d1[q]! = d[q]! := fun q h1 => by rw [h]; unfold rotAt; rw [if_pos (by omega)]
  intro p q h1 h2 h3
  have lo : ∀ x, a + 1 ≤ x → x < i → lt d[a]! d[x]! = false := fun x hx1 hx2 => by
    rcases c1 with c1 | c1
    · omega
    · exact hO.ntrans _ _ _ (hO.asymmA c1) (sortedIn_le hO hv hx1 (by omega) (by omega))
  have hi' : ∀ y, i ≤ y → y < b → lt d[y]! d[a]! = false := fun y hy1 hy2 => by
    rcases c2 with c2 | c2
    · omega
    · exact hO.ntrans _ _ _ (sortedIn_le hO hv (by omega) hy1 hy2) c2
  rcases Nat.lt_trichotomy p (i - 1) with r | r | r
  · rw [f1 p h1 r]
    rcases Nat.lt_trichotomy q (i - 1) with s | s | s
    · rw [f1 q (by omega) s]; exact hv _ _ (by omega) (by omega) (by omega)
    · rw [s, f2]; exact lo _ (by omega) (by omega)
    · rw [f3 q (by omega)]; exact hv _ _ (by omega) (by omega) h3
  · rw [r, f2, f3 q (by omega)]; exact hi' q (by omega) h3
  · rw [f3 p (by omega), f3 q (by omega)]; exact hv _ _ (by omega) h2 h3
/-- One element put into the run ahead of it. -/
theorem one_right {lt : α → α → Bool} (hO : SWO lt) (d d1 : Array α) (a i m : Nat) (hi : a ≤ i) (him : i ≤ m) (h : ∀ q, d1[q]! = rotAt d i m (m + 1) q) (hu : SortedIn lt a m d)
    (c1 : i = a ∨ lt d[m]! d[i - 1]! = false) (c2 : i = m ∨ lt d[m]! d[i]! = true) : SortedIn lt a (m + 1) d1 := by
  have f1 : ∀ q, q < i → d1[q]! = d[q]! := fun q h1 => by rw [h]; unfold rotAt; rw [if_pos (by omega)]
  have f2 : d1[i]! = d[m]! := by rw [h]; unfold rotAt; rw [if_neg (by omega), if_pos (by omega)]; congr 1; omega
  have f3 : ∀ q, i < q → q < m + 1 → d1[q]! = d[q - 1]! := fun q h1 h2 => by rw [h]; unfold rotAt; rw [if_neg (by omega), if_neg (by omega)]; congr 1; omega
  intro p q h1 h2 h3
  have lo : ∀ x, a ≤ x → x < i → lt d[m]! d[x]! = false := fun x hx1 hx2 => by
    rcases c1 with c1 | c1
    · omega
    · exact hO.ntrans _ _ _ c1 (sortedIn_le hO hu hx1 (by omega) (by omega))
  have hi' : ∀ y, i ≤ y → y < m → lt d[y]! d[m]! = false := fun y hy1 hy2 => by
    rcases c2 with c2 | c2
    · omega
    · exact hO.ntrans _ _ _ (sortedIn_le hO hu hi hy1 hy2) (hO.asymmA c2)
  rcases Nat.lt_trichotomy p i with r | r | r
  · rw [f1 p r]
    rcases Nat.lt_trichotomy q i with s | s | s
    · rw [f1 q s]; exact hu _ _ h1 h2 (by omega)
    · rw [s, f2]; exact lo _ h1 r
    · rw [f3 q s h3]; exact hu _ _ h1 (by omega) (by omega)
  · rw [r, f2, f3 q (by omega) h3]; exact hi' _ (by omega) (by omega)
  · rw [f3 p r (by omega), f3 q (by omega) h3]; exact hu _ _ (by omega) (by omega) (by omega)
end
end Go.Proofs.Ytpjpckhmjonehaa
