/-
  The plain law of updated line starts: the starts of a text behind an edit by those ahead of it. No function of the program is spoken of here.
-/
import Derived.Test.YtcgcakmpjeodfaaLines
import Derived.Test.YtcgcakmpjeodfaaEdits
namespace Go.Proofs.Ytcgcakmpjeodfaa
set_option linter.unusedVariables false

def lessThan (x : Int) (l : List Int) : Nat := l.countP (fun y => !decide (x ≤ y))
theorem lessThan_split (x : Int) (a b : List Int) (ha : ∀ y ∈ a, y < x) (hb : ∀ y ∈ b, x ≤ y) : lessThan x (a ++ b) = a.length := by
  unfold lessThan
  rw [List.countP_append, List.countP_eq_length.2, List.countP_eq_zero.2]
  · rfl
  · intro y hy; simp; exact hb y hy
  · intro y hy; simp; have := ha y hy; omega
theorem lessThan_le (x : Int) (l : List Int) : lessThan x l ≤ l.length := List.countP_le_length
/-- The starts that lie in the text, cut in three. -/
theorem starts_split (s : ByteArray) (p c : Nat) (h : p + c ≤ s.size) :
    starts s.data.toList = (0 :: nls (s.data.toList.take p) 0) ++ nls ((s.data.toList.drop p).take c) p ++ nls (s.data.toList.drop (p + c)) ((p + c : Nat) : Int) := by
  have hl : s.data.toList.length = s.size := by simp
  generalize s.data.toList = l at *
  have e1 : l = l.take p ++ ((l.drop p).take c ++ l.drop (p + c)) := by rw [← List.drop_drop, List.take_append_drop, List.take_append_drop]
  have h1 : (l.take p).length = p := by rw [List.length_take]; omega
  have h2 : ((l.drop p).take c).length = c := by rw [List.length_take, List.length_drop]; omega
  unfold starts
  conv => lhs; rw [e1]
  rw [nls_append, nls_append, h1, h2, Int.zero_add, List.cons_append, List.cons_append, List.append_assoc]
  congr 3
def updated (L : List Int) (e : Ed) : List Int :=
  L.take (lessThan ((e.p : Int) + 1) L) ++ nls e.put.data.toList e.p ++ (L.drop (lessThan ((e.p : Int) + (e.c : Int) + 1) L)).map (fun n => n + (e.put.size : Int) - (e.c : Int))
theorem updated_starts (s : ByteArray) (e : Ed) (h : e.p + e.c ≤ s.size) : updated (starts s.data.toList) e = starts (mk s e).data.toList := by
  have hs := starts_split s e.p e.c h
  have hl : s.data.toList.length = s.size := by simp
  have hp : e.put.data.toList.length = e.put.size := by simp
  have hm := mk_list s e h
  rw [hm]
  generalize s.data.toList = l at *
  have h1 : (l.take e.p).length = e.p := by rw [List.length_take]; omega
  have h2 : ((l.drop e.p).take e.c).length = e.c := by rw [List.length_take, List.length_drop]; omega
  have b1 : ∀ y ∈ (0 :: nls (l.take e.p) 0), y < (e.p : Int) + 1 := by
    intro y hy
    simp only [List.mem_cons] at hy
    rcases hy with rfl | hy
    · omega
    · have := nls_bd _ _ y hy; omega
  have b2 : ∀ y ∈ nls ((l.drop e.p).take e.c) e.p, (e.p : Int) + 1 ≤ y ∧ y < (e.p : Int) + (e.c : Int) + 1 := by
    intro y hy; have := nls_bd _ _ y hy; omega
  have b3 : ∀ y ∈ nls (l.drop (e.p + e.c)) ((e.p + e.c : Nat) : Int), (e.p : Int) + (e.c : Int) + 1 ≤ y := by
    intro y hy; have := nls_bd _ _ y hy; omega
  have l1 : lessThan ((e.p : Int) + 1) (starts l) = (0 :: nls (l.take e.p) 0).length := by
    rw [hs, List.append_assoc]
    refine lessThan_split _ _ _ b1 ?_
    intro y hy
    rcases List.mem_append.1 hy with hy | hy
    · exact (b2 y hy).1
    · have := b3 y hy; omega
  have l2 : lessThan ((e.p : Int) + (e.c : Int) + 1) (starts l) = ((0 :: nls (l.take e.p) 0) ++ nls ((l.drop e.p).take e.c) e.p).length := by
    rw [hs]
    refine lessThan_split _ _ _ ?_ b3
    intro y hy
    rcases List.mem_append.1 hy with hy | hy
    · have := b1 y hy; omega
    · exact (b2 y hy).2
  unfold updated
  rw [l1, l2]
  have t1 : (starts l).take (0 :: nls (l.take e.p) 0).length = 0 :: nls (l.take e.p) 0 := by rw [hs, List.append_assoc, List.take_left]
  have t2 : (starts l).drop ((0 :: nls (l.take e.p) 0) ++ nls ((l.drop e.p).take e.c) e.p).length = nls (l.drop (e.p + e.c)) ((e.p + e.c : Nat) : Int) := by rw [hs, List.drop_left]
  rw [t1, t2]
  unfold starts
  rw [nls_append, nls_append, List.length_append, h1, Int.zero_add, ← hp]
  simp only [List.cons_append, List.append_assoc]
  congr 3
  have := nls_shift (l.drop (e.p + e.c)) ((e.p + e.c : Nat) : Int) ((e.put.data.toList.length : Int) - (e.c : Int))
  have e0 : ((e.p + e.c : Nat) : Int) + ((e.put.data.toList.length : Int) - (e.c : Int)) = ((e.p + e.put.data.toList.length : Nat) : Int) := by omega
  rw [e0] at this
  rw [Int.zero_add, this]
  apply List.map_congr_left
  intro y _; omega
theorem starts_mono (l : List UInt8) (i : Nat) (h : i + 1 < (starts l).length) : (starts l).getD i 0 < (starts l).getD (i + 1) 0 := by
  have key : ∀ (l : List UInt8) (j : Int) (i : Nat), i < (nls l j).length → (j :: nls l j).getD i 0 < (j :: nls l j).getD (i + 1) 0 := by
    intro l
    induction l with
    | nil => intro j i hi; simp [nls] at hi
    | cons c l ih =>
      intro j i hi
      by_cases hc : c = 10
      · rw [nls, if_pos hc] at hi ⊢
        cases i with
        | zero => simp; omega
        | succ i =>
          have := ih (j + 1) i (by simpa using hi)
          simpa using this
      · rw [nls, if_neg hc] at hi ⊢
        cases i with
        | zero =>
          cases hn : nls l (j + 1) with
          | nil => rw [hn] at hi; simp at hi
          | cons y r =>
            have := nls_bd l (j + 1) y (by rw [hn]; simp)
            simp; omega
        | succ i =>
          have := ih (j + 1) (i + 1)
          have h2 := ih (j + 1) (i + 1) hi
          simpa using h2
  exact key l 0 i (by simp [starts] at h; exact h)
theorem starts_le (l : List UInt8) (i : Nat) : (starts l).getD i 0 ≤ l.length := by
  by_cases hi : i < (starts l).length
  · have hm : (starts l).getD i 0 ∈ starts l := by simp [List.getD, hi]
    generalize (starts l).getD i 0 = y at *
    simp only [starts, List.mem_cons] at hm
    rcases hm with rfl | h
    · omega
    · have := nls_bd _ _ _ h; omega
  · simp [List.getD, List.getElem?_eq_none (show (starts l).length ≤ i by omega)]
theorem starts_sorted (l : List UInt8) (i j : Nat) (hij : i ≤ j) (h : j < (starts l).length) : (starts l).getD i 0 ≤ (starts l).getD j 0 := by
  obtain ⟨d, rfl⟩ : ∃ d, j = i + d := ⟨j - i, by omega⟩
  induction d with
  | zero => simp
  | succ d ih =>
    have h1 := ih (by omega) (by omega)
    have h2 := starts_mono l (i + d) (by omega)
    rw [show i + (d + 1) = i + d + 1 by omega]; omega
end Go.Proofs.Ytcgcakmpjeodfaa
