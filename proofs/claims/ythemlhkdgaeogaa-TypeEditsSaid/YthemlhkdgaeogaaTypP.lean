/-
  Typing at cursors, plain: it is edits, the last one first.
-/
import Derived.Test.YthemlhkdgaeogaaRot
import Derived.Test.YthemlhkdgaeogaaRunE
namespace Go.Proofs.Ythemlhkdgaeogaa
set_option linter.unusedVariables false
set_option linter.unusedSimpArgs false

def tstep (s p : ByteArray) (st : ByteArray × Nat) (c : Sp) : ByteArray × Nat := (st.1 ++ (s.extract st.2 (clo c) ++ p), chi c)
def tfold (s p : ByteArray) (l : List Sp) : ByteArray × Nat := l.foldl (tstep s p) (⟨#[]⟩, 0)
/-- The text that is made. -/
def typed (s p : ByteArray) (l : List Sp) : ByteArray := (tfold s p l).1 ++ s.extract (tfold s p l).2 s.size
/-- Where the cursors stand behind it. -/
def outs (s p : ByteArray) (l : List Sp) (k : Nat) : List Sp := (List.range k).map fun j => ⟨(tfold s p (l.take (j + 1))).1.size, (tfold s p (l.take (j + 1))).1.size⟩
theorem outs_len (s p : ByteArray) (l : List Sp) (k : Nat) : (outs s p l k).length = k := by simp [outs]
theorem outs_succ (s p : ByteArray) (l : List Sp) (k : Nat) : outs s p l (k + 1) = outs s p l k ++ [⟨(tfold s p (l.take (k + 1))).1.size, (tfold s p (l.take (k + 1))).1.size⟩] := by simp [outs, List.range_succ]
theorem tfold_snoc (s p : ByteArray) (l : List Sp) (c : Sp) : tfold s p (l ++ [c]) = tstep s p (tfold s p l) c := by simp [tfold]
theorem tfold_take (s p : ByteArray) (l : List Sp) (k : Nat) (hk : k < l.length) : tfold s p (l.take (k + 1)) = tstep s p (tfold s p (l.take k)) l[k] := by
  rw [List.take_succ_eq_append_getElem hk, tfold_snoc]
theorem apt_left {l : List Sp} {c : Sp} (h : Apt (l ++ [c])) : Apt l ∧ ∀ a ∈ l, chi a ≤ clo c := by
  induction l with
  | nil => exact ⟨trivial, fun a ha => nomatch ha⟩
  | cons a l ih =>
    have h1 := ih h.tail
    refine ⟨?_, fun x hx => ?_⟩
    · cases l with
      | nil => trivial
      | cons b l => exact ⟨h.1, h.2.1, h1.1⟩
    · rcases List.mem_cons.1 hx with rfl | hx
      · exact apt_head h c (by simp)
      · exact h1.2 x hx
theorem tat (s p : ByteArray) (l : List Sp) (n : Nat) (h : ∀ a ∈ l, chi a ≤ n) : (tfold s p l).2 ≤ n := by
  rcases List.eq_nil_or_concat l with rfl | ⟨l', c, rfl⟩
  · exact Nat.zero_le _
  · rw [List.concat_eq_append, tfold_snoc]
    exact h c (by simp)
theorem ext_size (s : ByteArray) (a b : Nat) (h : b ≤ s.size) : (s.extract a b).size = b - a := by rw [ByteArray.size_extract]; omega
theorem tsize (s p : ByteArray) (l : List Sp) (ha : Apt l) (hu : Upto s.size l) : (tfold s p l).1.size ≤ (tfold s p l).2 + l.length * p.size := by
  induction l using snoc_ind with
  | h0 => exact Nat.zero_le _
  | h1 l c ih =>
    obtain ⟨h1, h2⟩ := apt_left ha
    have h3 := ih h1 (fun x hx => hu x (by simp [hx]))
    have h4 := tat s p l (clo c) h2
    have h5 := chi_le (hu c (by simp))
    have h6 := clo_le c
    rw [tfold_snoc, List.length_append, List.length_singleton, Nat.add_mul, Nat.one_mul]
    show ((tfold s p l).1 ++ (s.extract (tfold s p l).2 (clo c) ++ p)).size ≤ chi c + _
    rw [ByteArray.size_append, ByteArray.size_append, ext_size _ _ _ (by omega)]
    omega
theorem tfold_congr (s s' p : ByteArray) (n : Nat) (h : ∀ a b, b ≤ n → s.extract a b = s'.extract a b) (l : List Sp) (hl : ∀ a ∈ l, chi a ≤ n) : tfold s p l = tfold s' p l := by
  induction l using snoc_ind with
  | h0 => rfl
  | h1 l c ih =>
    have h1 := clo_le c
    have h2 := hl c (by simp)
    rw [tfold_snoc, tfold_snoc, ih (fun a ha => hl a (by simp [ha]))]
    unfold tstep
    rw [h _ _ (by omega)]
theorem mk_before (s : ByteArray) (e : Ed) (h : e.p + e.c ≤ s.size) (a b : Nat) (hb : b ≤ e.p) : (mk s e).extract a b = s.extract a b := by
  have hl : s.data.toList.length = s.size := by simp
  have h1 : (s.data.toList.take e.p).length = e.p := by simp; omega
  apply bytes_ext
  rw [ext_list, ext_list, mk_list s e h, List.append_assoc]
  rcases Nat.lt_or_ge b a with q | q
  · rw [show b - a = 0 by omega, List.take_zero, List.take_zero]
  · rw [List.drop_append_of_le_length (by omega), List.take_append_of_le_length (by rw [List.length_drop]; omega), List.drop_take, List.take_take, Nat.min_eq_left (by omega)]
theorem mk_behind (s : ByteArray) (e : Ed) (h : e.p + e.c ≤ s.size) (a : Nat) (ha : a ≤ e.p) : (mk s e).extract a (mk s e).size = (s.extract a e.p ++ e.put) ++ s.extract (e.p + e.c) s.size := by
  have hl : s.data.toList.length = s.size := by simp
  have h1 : (s.data.toList.take e.p).length = e.p := by simp; omega
  have h2 : (mk s e).data.toList.length = (mk s e).size := by simp
  apply bytes_ext
  rw [append_data, append_data, ext_list, ext_list, ext_list, List.take_of_length_le (by rw [List.length_drop, h2]; exact Nat.le_refl _), mk_list s e h, List.append_assoc, List.drop_append_of_le_length (by omega), List.drop_take]
  rw [List.take_of_length_le (l := List.drop (e.p + e.c) s.data.toList) (by rw [List.length_drop, hl]; exact Nat.le_refl _), List.append_assoc]
def edC (p : ByteArray) (c : Sp) : Ed := ⟨clo c, chi c - clo c, p⟩
theorem typed_edits (p : ByteArray) (l : List Sp) : ∀ s : ByteArray, Apt l → (∀ a ∈ l, chi a ≤ s.size) → typed s p l = rn s (l.reverse.map (edC p)) := by
  induction l using snoc_ind with
  | h0 =>
    intro s _ _
    show (⟨#[]⟩ : ByteArray) ++ s.extract 0 s.size = s
    apply bytes_ext
    rw [append_data, ext_list]
    simp
    exact List.take_of_length_le (by simp)
  | h1 l c ih =>
    intro s ha hu
    obtain ⟨h1, h2⟩ := apt_left ha
    have h3 := hu c (by simp)
    have h4 := clo_le c
    have h5 := tat s p l (clo c) h2
    have he : (edC p c).p + (edC p c).c ≤ s.size := by show clo c + (chi c - clo c) ≤ s.size; omega
    have hz := mk_size s (edC p c) he
    have hcc : clo c + (chi c - clo c) = chi c := by omega
    rw [List.reverse_append, List.reverse_singleton, List.singleton_append, List.map_cons]
    show typed s p (l ++ [c]) = rn (mk s (edC p c)) (l.reverse.map (edC p))
    have hz2 : clo c ≤ (mk s (edC p c)).size := by rw [hz]; show clo c ≤ s.size + p.size - (chi c - clo c); omega
    rw [← ih (mk s (edC p c)) h1 (fun a h => by have := h2 a h; omega)]
    unfold typed
    rw [← tfold_congr s (mk s (edC p c)) p (clo c) (fun a b hb => (mk_before s (edC p c) he a b hb).symm) l h2, tfold_snoc, mk_behind s (edC p c) he _ h5]
    unfold tstep
    show (tfold s p l).1 ++ (s.extract (tfold s p l).2 (clo c) ++ p) ++ s.extract (chi c) s.size = (tfold s p l).1 ++ (s.extract (tfold s p l).2 (clo c) ++ p ++ s.extract (clo c + (chi c - clo c)) s.size)
    rw [hcc]
    apply bytes_ext
    simp only [append_data, Array.toList_append, List.append_assoc]
theorem okr_typed (p : ByteArray) (l : List Sp) : ∀ n : Nat, Apt l → (∀ a ∈ l, chi a ≤ n) → n + l.length * p.size ≤ 600 → okr n (l.reverse.map (edC p)) := by
  induction l using snoc_ind with
  | h0 => intro n _ _ _; trivial
  | h1 l c ih =>
    intro n ha hu hn
    obtain ⟨h1, h2⟩ := apt_left ha
    have h3 := hu c (by simp)
    have h4 := clo_le c
    rw [List.length_append, List.length_singleton, Nat.add_mul, Nat.one_mul] at hn
    rw [List.reverse_append, List.reverse_singleton, List.singleton_append, List.map_cons]
    have h5 : 0 ≤ l.length * p.size := Nat.zero_le _
    refine ⟨by show clo c + (chi c - clo c) ≤ n; omega, by show n + p.size - (chi c - clo c) ≤ 600; omega, ih _ h1 (fun a h => ?_) ?_⟩
    · have := h2 a h; show chi a ≤ n + p.size - (chi c - clo c); omega
    · show n + p.size - (chi c - clo c) + l.length * p.size ≤ 600; omega
theorem tfold_pre (s p : ByteArray) (l m : List Sp) : ∃ r, (tfold s p (l ++ m)).1 = (tfold s p l).1 ++ r := by
  induction m using snoc_ind with
  | h0 => exact ⟨⟨#[]⟩, by rw [List.append_nil]; apply bytes_ext; simp [append_data]⟩
  | h1 m c ih =>
    obtain ⟨r, hr⟩ := ih
    rw [← List.append_assoc, tfold_snoc]
    refine ⟨r ++ (s.extract (tfold s p (l ++ m)).2 (clo c) ++ p), ?_⟩
    show (tfold s p (l ++ m)).1 ++ _ = _
    rw [hr]
    apply bytes_ext
    simp only [append_data, Array.toList_append, List.append_assoc]
/-- What stands ahead of each cursor. -/
theorem typed_at (s p : ByteArray) (l : List Sp) (k : Nat) (hk : k < l.length) :
    p.size ≤ (tfold s p (l.take (k + 1))).1.size ∧ (tfold s p (l.take (k + 1))).1.size ≤ (typed s p l).size ∧
      (typed s p l).extract ((tfold s p (l.take (k + 1))).1.size - p.size) (tfold s p (l.take (k + 1))).1.size = p ∧ (tfold s p (l.take k)).1.size ≤ (tfold s p (l.take (k + 1))).1.size := by
  obtain ⟨r, hr⟩ := tfold_pre s p (l.take (k + 1)) (l.drop (k + 1))
  rw [List.take_append_drop] at hr
  have ht := tfold_take s p l k hk
  have e1 : (tfold s p (l.take (k + 1))).1 = (tfold s p (l.take k)).1 ++ (s.extract (tfold s p (l.take k)).2 (clo l[k]) ++ p) := by rw [ht]; rfl
  have e2 : typed s p l = (tfold s p (l.take (k + 1))).1 ++ (r ++ s.extract (tfold s p l).2 s.size) := by
    unfold typed
    rw [hr]
    apply bytes_ext
    simp only [append_data, Array.toList_append, List.append_assoc]
  have hs1 : (tfold s p (l.take (k + 1))).1.size = (tfold s p (l.take k)).1.size + ((s.extract (tfold s p (l.take k)).2 (clo l[k])).size + p.size) := by rw [e1, ByteArray.size_append, ByteArray.size_append]
  refine ⟨by omega, by rw [e2, ByteArray.size_append]; omega, ?_, by omega⟩
  rw [e2]
  apply bytes_ext
  rw [ext_list, hs1, append_data, e1]
  generalize (tfold s p (l.take k)).1 = a
  generalize s.extract (tfold s p (l.take k)).2 (clo l[k]) = b
  generalize r ++ s.extract (tfold s p l).2 s.size = z
  have ha : a.data.toList.length = a.size := by simp
  have hb : b.data.toList.length = b.size := by simp
  have hp : p.data.toList.length = p.size := by simp
  rw [append_data, append_data, show a.size + (b.size + p.size) - p.size = (a.data.toList ++ b.data.toList).length by rw [List.length_append, ha, hb]; omega]
  rw [show a.data.toList ++ (b.data.toList ++ p.data.toList) ++ z.data.toList = (a.data.toList ++ b.data.toList) ++ (p.data.toList ++ z.data.toList) by simp, List.drop_left]
  rw [show a.size + (b.size + p.size) - (a.data.toList ++ b.data.toList).length = p.data.toList.length by rw [List.length_append, ha, hb, hp]; omega, List.take_left]
theorem typed_size (s p : ByteArray) (l : List Sp) (ha : Apt l) (hu : Upto s.size l) : (typed s p l).size ≤ s.size + l.length * p.size := by
  have h1 := tsize s p l ha hu
  have h2 := tat s p l s.size (fun a h => chi_le (hu a h))
  unfold typed
  rw [ByteArray.size_append, ext_size _ _ _ (Nat.le_refl _)]
  omega
theorem apt_take (l : List Sp) : ∀ n, Apt l → Apt (l.take n) := by
  induction l with
  | nil => intro n _; simp; trivial
  | cons a l ih =>
    intro n hl
    cases n with
    | zero => trivial
    | succ n =>
      have h1 := ih n hl.tail
      cases l with
      | nil => simp; trivial
      | cons b l =>
        cases n with
        | zero => trivial
        | succ n => exact ⟨hl.1, hl.2.1, h1⟩
end Go.Proofs.Ythemlhkdgaeogaa
