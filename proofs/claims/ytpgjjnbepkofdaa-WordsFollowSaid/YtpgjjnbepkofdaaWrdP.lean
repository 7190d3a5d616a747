/-
  Plain: the words of a text and where they begin.
-/
import Derived.Test.YtpgjjnbepkofdaaRows
namespace Go.Proofs.Ytpgjjnbepkofdaa
set_option linter.unusedVariables false

/-- A byte of a word. -/
def partB (c : UInt8) : Bool := decide ((97 ≤ c.toNat ∧ c.toNat ≤ 122) ∨ (65 ≤ c.toNat ∧ c.toNat ≤ 90) ∨ (48 ≤ c.toNat ∧ c.toNat ≤ 57))
def emit (cur : List UInt8) (p : Nat) : List (List UInt8 × Nat) := if cur ≠ [] ∧ cur.length ≤ 12 then [(cur, p)] else []
/-- The words of what is left, where 'cur' has been read from p on. -/
def wdsA : List UInt8 → List UInt8 → Nat → List (List UInt8 × Nat)
  | [], cur, p => emit cur p
  | c :: t, cur, p => if partB c then wdsA t (cur ++ [c]) p else emit cur p ++ wdsA t [] (p + cur.length + 1)
theorem emit_nil (p : Nat) : emit [] p = [] := by simp [emit]
theorem wdsA_sep (x : List UInt8) (c : UInt8) (y cur : List UInt8) (p : Nat) (hc : partB c = false) : wdsA (x ++ c :: y) cur p = wdsA x cur p ++ wdsA y [] (p + cur.length + x.length + 1) := by
  induction x generalizing cur p with
  | nil => rw [List.nil_append, wdsA, wdsA, hc]; simp
  | cons d t ih =>
    rw [List.cons_append, wdsA, wdsA]
    split
    · rw [ih, List.length_append, List.length_singleton, List.length_cons]
      congr 2
      omega
    · rw [ih, List.append_assoc, List.length_nil, List.length_cons]
      congr 3
      omega
theorem wdsA_run (r cur : List UInt8) (p : Nat) (h : ∀ c ∈ r, partB c = true) : wdsA r cur p = emit (cur ++ r) p := by
  induction r generalizing cur with
  | nil => rw [wdsA, List.append_nil]
  | cons c t ih =>
    rw [wdsA, if_pos (h c (by simp)), ih _ (fun d hd => h d (by simp [hd]))]
    simp
/-- Where a word begins. -/
def placesOf (ws : List (List UInt8 × Nat)) (s : List UInt8) : List Int := (ws.filter (fun x => x.1 == s)).map (fun x => (x.2 : Int))
theorem placesOf_append (a b : List (List UInt8 × Nat)) (s : List UInt8) : placesOf (a ++ b) s = placesOf a s ++ placesOf b s := by
  unfold placesOf
  rw [List.filter_append, List.map_append]
theorem placesOf_nil (s : List UInt8) : placesOf [] s = [] := rfl
theorem placesOf_one (l : List UInt8) (p : Nat) (s : List UInt8) : placesOf [(l, p)] s = if l = s then [(p : Int)] else [] := by
  unfold placesOf
  by_cases h : l = s
  · simp [h]
  · simp [h]
theorem placesOf_emit (r : List UInt8) (p : Nat) (s : List UInt8) (h1 : r ≠ []) (h2 : r.length ≤ 12) : placesOf (emit r p) s = if r = s then [(p : Int)] else [] := by
  unfold emit
  rw [if_pos ⟨h1, h2⟩, placesOf_one]
/-- Of a text from lo to hi. -/
def wordsIn (l : List UInt8) (lo hi : Nat) : List (List UInt8 × Nat) := wdsA ((l.take hi).drop lo) [] lo
/-- One step of the run. -/
theorem wds_step (l : List UInt8) (k j hi : Nat) (hkj : k ≤ j) (hj : j < hi) (hhi : hi ≤ l.length) (hc : partB (l[j]'(by omega)) = true) :
    wdsA ((l.take hi).drop j) ((l.take j).drop k) k = wdsA ((l.take hi).drop (j + 1)) ((l.take (j + 1)).drop k) k := by
  have h1 : (l.take hi).drop j = l[j]'(by omega) :: (l.take hi).drop (j + 1) := by
    rw [List.drop_eq_getElem_cons (by rw [List.length_take]; omega), List.getElem_take]
  have h2 : (l.take (j + 1)).drop k = (l.take j).drop k ++ [l[j]'(by omega)] := by
    rw [List.take_succ_eq_append_getElem (by omega), List.drop_append_of_le_length (by rw [List.length_take]; omega)]
  rw [h1, wdsA, if_pos hc, h2]
/-- The end of a run. -/
theorem wds_stop (l : List UInt8) (k j hi : Nat) (hkj : k ≤ j) (hj : j ≤ hi) (hhi : hi ≤ l.length) (hc : ∀ h : j < hi, partB (l[j]'(by omega)) = false) :
    wdsA ((l.take hi).drop j) ((l.take j).drop k) k = emit ((l.take j).drop k) k ++ wdsA ((l.take hi).drop (j + 1)) [] (j + 1) := by
  rcases Nat.lt_or_ge j hi with h | h
  · have h1 : (l.take hi).drop j = l[j]'(by omega) :: (l.take hi).drop (j + 1) := by
      rw [List.drop_eq_getElem_cons (by rw [List.length_take]; omega), List.getElem_take]
    rw [h1, wdsA, hc h]
    have : k + ((l.take j).drop k).length + 1 = j + 1 := by rw [List.length_drop, List.length_take]; omega
    rw [this]
    simp
  · obtain rfl : j = hi := by omega
    have a1 : (l.take j).drop j = [] := List.drop_eq_nil_of_le (by rw [List.length_take]; omega)
    have a2 : (l.take j).drop (j + 1) = [] := List.drop_eq_nil_of_le (by rw [List.length_take]; omega)
    rw [a1, a2, wdsA, wdsA, emit_nil, List.append_nil]
end Go.Proofs.Ytpgjjnbepkofdaa
