/-
  Plain: a text split at its line ends.
-/
import Derived.Test.YtpjpckhmjonehaaDoorPolI
namespace Go.Proofs.YtpjpckhmjonehaaDoor
set_option linter.unusedVariables false
set_option linter.unusedSimpArgs false

def spl : List UInt8 → List (List UInt8)
  | [] => [[]]
  | b :: t => if b = 10 then [] :: spl t else (b :: (spl t).headD []) :: (spl t).tail
theorem spl_step (b : UInt8) (t : List UInt8) : spl (b :: t) = if b = 10 then [] :: spl t else (b :: (spl t).headD []) :: (spl t).tail := rfl
theorem spl_ne (s : List UInt8) : spl s ≠ [] := by
  cases s with
  | nil => simp [spl]
  | cons b t => unfold spl; split <;> simp
theorem spl_cons (s : List UInt8) : spl s = (spl s).headD [] :: (spl s).tail := by
  cases h : spl s with
  | nil => exact absurd h (spl_ne s)
  | cons a r => rfl
theorem spl_len (s : List UInt8) : (spl s).length = s.count 10 + 1 := by
  induction s with
  | nil => rfl
  | cons b t ih =>
    unfold spl
    by_cases h : b = 10
    · rw [if_pos h, List.length_cons, ih, h, List.count_cons_self]
    · rw [if_neg h, List.length_cons, List.length_tail, ih, List.count_cons_of_ne h]; omega
theorem spl_app (a b : List UInt8) : spl (a ++ 10 :: b) = spl a ++ spl b := by
  induction a with
  | nil => simp [spl]
  | cons c t ih =>
    rw [List.cons_append, spl_step, spl_step, ih]
    by_cases h : c = 10
    · rw [if_pos h, if_pos h]; rfl
    · rw [if_neg h, if_neg h, spl_cons t]; rfl
theorem spl_none (s : List UInt8) (h : ∀ k : Nat, s[k]? ≠ some 10) : spl s = [s] := by
  induction s with
  | nil => rfl
  | cons b t ih =>
    have hb : b ≠ 10 := fun e => h 0 (by rw [e]; rfl)
    have ht := ih (fun k => h (k + 1))
    unfold spl
    rw [if_neg hb, ht]; rfl
theorem spl_at (s : List UInt8) (o : Nat) (h1 : s[o]? = some 10) (h2 : ∀ k : Nat, k < o → s[k]? ≠ some 10) : spl s = s.take o :: spl (s.drop (o + 1)) := by
  have hlt : o < s.length := (List.getElem?_eq_some_iff.1 h1).1
  have e : s = s.take o ++ 10 :: s.drop (o + 1) := by
    have h3 : s[o] = 10 := (List.getElem?_eq_some_iff.1 h1).2
    rw [← h3, List.getElem_cons_drop, List.take_append_drop]
  have h4 : spl (s.take o) = [s.take o] := spl_none _ (fun k => by
    rw [List.getElem?_take]
    split
    · rename_i hk; exact h2 k hk
    · simp)
  conv => lhs; rw [e, spl_app, h4]
  rfl
theorem spl_ix (s : List UInt8) : (Lib.indexByte s 10 = -1 ∧ spl s = [s]) ∨ ∃ o : Nat, Lib.indexByte s 10 = (o : Int) ∧ o < s.length ∧ spl s = s.take o :: spl (s.drop (o + 1)) := by
  have hg := Lib.indexByte_ge s 10
  by_cases h : Lib.indexByte s 10 = -1
  · exact .inl ⟨h, spl_none s (Lib.indexByte_none h)⟩
  · obtain ⟨o, ho⟩ : ∃ o : Nat, Lib.indexByte s 10 = (o : Int) := ⟨(Lib.indexByte s 10).toNat, by omega⟩
    obtain ⟨h1, h2⟩ := Lib.indexByte_some ho
    exact .inr ⟨o, ho, (List.getElem?_eq_some_iff.1 h1).1, spl_at s o h1 h2⟩
theorem spl_pre {pre : List ByteArray} {t s : List UInt8} (h : pre.map (fun x => x.data.toList) ++ spl t = spl s) : pre.length ≤ s.length := by
  have h1 := congrArg List.length h
  rw [List.length_append, List.length_map, spl_len, spl_len] at h1
  have := List.count_le_length (a := (10 : UInt8)) (l := s)
  omega
end Go.Proofs.YtpjpckhmjonehaaDoor
