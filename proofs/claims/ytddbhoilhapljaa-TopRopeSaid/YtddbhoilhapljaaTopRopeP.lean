/-
  The plain law of TopRope: an edit is cutting and joining.
-/
import Derived.Test.YtddbhoilhapljaaRopeShP
import Derived.Test.YtddbhoilhapljaaEdits
namespace Go.Proofs.Ytddbhoilhapljaa
open Go.RowKit
set_option linter.unusedVariables false
set_option linter.unusedSimpArgs false

def edOps (now n : Nat) (e : Ed) : List Ro := [⟨3, ⟨#[]⟩, now, 0, e.p, 0⟩, ⟨4, ⟨#[]⟩, now, 0, e.p + e.c, 0⟩, ⟨1, e.put, 0, 0, 0, 0⟩, ⟨2, ⟨#[]⟩, n, n + 2, 0, 0⟩, ⟨2, ⟨#[]⟩, n + 3, n + 1, 0, 0⟩]
theorem step_app (ts : List (List UInt8)) (o : Ro) (h : rlen (lens ts) o ≤ 600) : (stepT ts o).1 = ts ++ [rres ts o] := by
  unfold stepT; rw [if_pos h]
theorem getD_low (ts xs : List (List UInt8)) (i : Nat) (h : i < ts.length) : (ts ++ xs).getD i [] = ts.getD i [] := by
  rw [List.getD_eq_getElem?_getD, List.getElem?_append_left h, List.getD_eq_getElem?_getD]
theorem getD_high (ts xs : List (List UInt8)) (i : Nat) : (ts ++ xs).getD (ts.length + i) [] = xs.getD i [] := by
  rw [List.getD_eq_getElem?_getD, List.getElem?_append_right (by omega), Nat.add_sub_cancel_left, List.getD_eq_getElem?_getD]
theorem lens_len (ts : List (List UInt8)) : (lens ts).length = ts.length := by simp [lens]
theorem top_step (os : List Ro) (ts : List (List UInt8)) (n now : Nat) (cur : List UInt8) (e : Ed) (hts : (runT [] os).1 = ts) (hv : vldT [] os) (hn : ts.length = n) (hn9 : n ≤ 40) (hnow : now < n) (hcur : ts.getD now [] = cur)
    (h1 : e.p + e.c ≤ cur.length) (h2 : cur.length ≤ 200) (h3 : e.put.size ≤ 8) :
    vldT [] (os ++ edOps now n e) ∧ (runT [] (os ++ edOps now n e)).1 = ts ++ [cur.take e.p, cur.drop (e.p + e.c), e.put.data.toList, cur.take e.p ++ e.put.data.toList, cur.take e.p ++ e.put.data.toList ++ cur.drop (e.p + e.c)] := by
  subst hn
  have h0 : (⟨#[]⟩ : ByteArray).size = 0 := rfl
  have hpl : e.put.data.toList.length = e.put.size := by simp
  generalize hA : cur.take e.p = A
  generalize hB : cur.drop (e.p + e.c) = B
  generalize hP : e.put.data.toList = P at *
  have lA : A.length ≤ 200 := by rw [← hA, List.length_take]; omega
  have lB : B.length ≤ 200 := by rw [← hB, List.length_drop]; omega
  have g1 : ∀ xs : List (List UInt8), (ts ++ xs).getD now [] = cur := fun xs => by rw [getD_low _ _ _ hnow]; exact hcur
  have s1 : (stepT ts ⟨3, ⟨#[]⟩, now, 0, e.p, 0⟩).1 = ts ++ [A] := by
    rw [step_app _ _ (by show 0 ≤ 600; decide)]
    show ts ++ [(ts.getD now []).take e.p] = _
    rw [hcur, hA]
  have s2 : (stepT (ts ++ [A]) ⟨4, ⟨#[]⟩, now, 0, e.p + e.c, 0⟩).1 = ts ++ [A, B] := by
    rw [step_app _ _ (by show 0 ≤ 600; decide)]
    show ts ++ [A] ++ [((ts ++ [A]).getD now []).drop (e.p + e.c)] = _
    rw [g1, hB]; simp
  have s3 : (stepT (ts ++ [A, B]) ⟨1, e.put, 0, 0, 0, 0⟩).1 = ts ++ [A, B, P] := by
    rw [step_app _ _ (by show e.put.size ≤ 600; omega)]
    show ts ++ [A, B] ++ [e.put.data.toList] = _
    rw [hP]; simp
  have q0 : ∀ xs : List (List UInt8), (ts ++ xs).getD ts.length [] = xs.getD 0 [] := fun xs => getD_high ts xs 0
  have q1 : ∀ xs : List (List UInt8), (ts ++ xs).getD (ts.length + 1) [] = xs.getD 1 [] := fun xs => getD_high ts xs 1
  have q2 : ∀ xs : List (List UInt8), (ts ++ xs).getD (ts.length + 2) [] = xs.getD 2 [] := fun xs => getD_high ts xs 2
  have q3 : ∀ xs : List (List UInt8), (ts ++ xs).getD (ts.length + 3) [] = xs.getD 3 [] := fun xs => getD_high ts xs 3
  have s4 : (stepT (ts ++ [A, B, P]) ⟨2, ⟨#[]⟩, ts.length, ts.length + 2, 0, 0⟩).1 = ts ++ [A, B, P, A ++ P] := by
    rw [step_app _ _ (by show (lens (ts ++ [A, B, P])).getD ts.length 0 + (lens (ts ++ [A, B, P])).getD (ts.length + 2) 0 ≤ 600; rw [lens_getD, lens_getD, q0, q2]; show A.length + P.length ≤ 600; omega)]
    show ts ++ [A, B, P] ++ [(ts ++ [A, B, P]).getD ts.length [] ++ (ts ++ [A, B, P]).getD (ts.length + 2) []] = _
    rw [q0, q2]; simp
  have s5 : (stepT (ts ++ [A, B, P, A ++ P]) ⟨2, ⟨#[]⟩, ts.length + 3, ts.length + 1, 0, 0⟩).1 = ts ++ [A, B, P, A ++ P, A ++ P ++ B] := by
    rw [step_app _ _ (by show (lens (ts ++ [A, B, P, A ++ P])).getD (ts.length + 3) 0 + (lens (ts ++ [A, B, P, A ++ P])).getD (ts.length + 1) 0 ≤ 600; rw [lens_getD, lens_getD, q3, q1]; show (A ++ P).length + B.length ≤ 600; rw [List.length_append]; omega)]
    show ts ++ [A, B, P, A ++ P] ++ [(ts ++ [A, B, P, A ++ P]).getD (ts.length + 3) [] ++ (ts ++ [A, B, P, A ++ P]).getD (ts.length + 1) []] = _
    rw [q3, q1]; simp
  refine ⟨?_, ?_⟩
  · rw [vldT_append, hts]
    refine ⟨hv, ?_, ?_, ?_, ?_, ?_, trivial⟩
    · refine ⟨show 1 ≤ 3 by decide, show 3 ≤ 5 by decide, fun _ => ?_, fun h => absurd h (show ¬ (3 = 2) by decide), fun _ => ?_, fun h => absurd h (show ¬ (3 = 5) by decide), ?_, ?_, show 0 ≤ 100 by decide, ?_, show 0 ≤ 100 by decide, show _ ≤ 600 by rw [h0]; decide⟩
      · rw [lens_len]; exact hnow
      · show e.p ≤ (lens ts).getD now 0; rw [lens_getD, hcur]; omega
      · rw [lens_len]; omega
      · show now ≤ 100; omega
      · show e.p ≤ 600; omega
    · rw [s1]
      refine ⟨show 1 ≤ 4 by decide, show 4 ≤ 5 by decide, fun _ => ?_, fun h => absurd h (show ¬ (4 = 2) by decide), fun _ => ?_, fun h => absurd h (show ¬ (4 = 5) by decide), ?_, ?_, show 0 ≤ 100 by decide, ?_, show 0 ≤ 100 by decide, show _ ≤ 600 by rw [h0]; decide⟩
      · rw [lens_len, List.length_append]; show now < _; omega
      · show e.p + e.c ≤ (lens _).getD now 0; rw [lens_getD, g1]; omega
      · rw [lens_len, List.length_append]; simp; omega
      · show now ≤ 100; omega
      · show e.p + e.c ≤ 600; omega
    · rw [s1, s2]
      refine ⟨show 1 ≤ 1 by decide, show 1 ≤ 5 by decide, fun h => absurd rfl h, fun h => absurd h (show ¬ (1 = 2) by decide), fun h => absurd h (show ¬ (1 = 3 ∨ 1 = 4) by decide), fun h => absurd h (show ¬ (1 = 5) by decide), ?_, show 0 ≤ 100 by decide, show 0 ≤ 100 by decide, show 0 ≤ 600 by decide, show 0 ≤ 100 by decide, show e.put.size ≤ 600 by omega⟩
      rw [lens_len, List.length_append]; simp; omega
    · rw [s1, s2, s3]
      refine ⟨show 1 ≤ 2 by decide, show 2 ≤ 5 by decide, fun _ => ?_, fun _ => ?_, fun h => absurd h (show ¬ (2 = 3 ∨ 2 = 4) by decide), fun h => absurd h (show ¬ (2 = 5) by decide), ?_, ?_, ?_, show 0 ≤ 600 by decide, show 0 ≤ 100 by decide, show _ ≤ 600 by rw [h0]; decide⟩
      · rw [lens_len, List.length_append]; show ts.length < _; simp
      · rw [lens_len, List.length_append]; show ts.length + 2 < _; simp
      · rw [lens_len, List.length_append]; simp; omega
      · show ts.length ≤ 100; omega
      · show ts.length + 2 ≤ 100; omega
    · rw [s1, s2, s3, s4]
      refine ⟨show 1 ≤ 2 by decide, show 2 ≤ 5 by decide, fun _ => ?_, fun _ => ?_, fun h => absurd h (show ¬ (2 = 3 ∨ 2 = 4) by decide), fun h => absurd h (show ¬ (2 = 5) by decide), ?_, ?_, ?_, show 0 ≤ 600 by decide, show 0 ≤ 100 by decide, show _ ≤ 600 by rw [h0]; decide⟩
      · rw [lens_len, List.length_append]; show ts.length + 3 < _; simp
      · rw [lens_len, List.length_append]; show ts.length + 1 < _; simp
      · rw [lens_len, List.length_append]; simp; omega
      · show ts.length + 3 ≤ 100; omega
      · show ts.length + 1 ≤ 100; omega
  · rw [runT_append, hts]
    simp only [edOps, runT, s1, s2, s3, s4, s5]
/-- What stands behind k edits. -/
structure TopI (s : ByteArray) (es : List Ed) (k : Nat) (os : List Ro) (now : Nat) : Prop where
  len : os.length = 5 * k + 1
  cnt : (runT [] os).1.length = 5 * k + 1
  vld : vldT [] os
  now_ : now < 5 * k + 1
  is_ : (runT [] os).1.getD now [] = (rn s (es.take k)).data.toList
theorem topI_zero (s : ByteArray) (es : List Ed) (hs : s.size ≤ 80) : TopI s es 0 [⟨1, s, 0, 0, 0, 0⟩] 0 := by
  have hr : (runT [] [⟨1, s, 0, 0, 0, 0⟩]).1 = [s.data.toList] := by
    show (stepT [] ⟨1, s, 0, 0, 0, 0⟩).1 = _
    rw [step_app _ _ (by show s.size ≤ 600; omega)]; rfl
  refine ⟨rfl, by rw [hr]; rfl, ⟨?_, trivial⟩, by decide, by rw [hr]; rfl⟩
  exact ⟨show 1 ≤ 1 by decide, show 1 ≤ 5 by decide, fun h => absurd rfl h, fun h => absurd h (show ¬ (1 = 2) by decide), fun h => absurd h (show ¬ (1 = 3 ∨ 1 = 4) by decide), fun h => absurd h (show ¬ (1 = 5) by decide), show 0 < 60 by decide, show 0 ≤ 100 by decide, show 0 ≤ 100 by decide, show 0 ≤ 600 by decide, show 0 ≤ 100 by decide, show s.size ≤ 600 by omega⟩
theorem topI_step {s : ByteArray} {es : List Ed} {k now : Nat} {os : List Ro} (h : TopI s es k os now) (hk : k < es.length) (hk8 : es.length ≤ 8) (hs : s.size ≤ 80) (hv : vld s.size es) :
    TopI s es (k + 1) (os ++ edOps now (5 * k + 1) es[k]) (5 * k + 5) := by
  obtain ⟨h1, h2, h3, h4, h5⟩ := h
  have ho := okr_of_vld es _ hv (by omega)
  have hsn : es.take (k + 1) = es.take k ++ [es[k]] := List.take_succ_eq_append_getElem hk
  have hvk : vld s.size (es.take k ++ [es[k]]) := by
    have h9 : ∀ (a b : List Ed) n, vld n (a ++ b) → vld n a := by
      intro a b
      induction a with
      | nil => intro n _; trivial
      | cons x a ih => intro n hh; exact ⟨hh.1, hh.2.1, hh.2.2.1, ih _ hh.2.2.2⟩
    refine h9 (es.take k ++ [es[k]]) (es.drop (k + 1)) _ ?_
    rw [← hsn, List.take_append_drop]; exact hv
  obtain ⟨v1, v2, v3, v4⟩ := (vld_snoc _ _ _).1 hvk
  have hok : okr s.size (es.take k) := okr_of_vld _ _ v1 (by rw [List.length_take]; omega)
  have hsz := rn_size (es.take k) s hok
  have hsl := sized_le (es.take k) _ v1
  rw [List.length_take] at hsl
  have hcl : (rn s (es.take k)).data.toList.length = (rn s (es.take k)).size := by simp
  obtain ⟨t1, t2⟩ := top_step os (runT [] os).1 (5 * k + 1) now _ es[k] rfl h3 h2 (by omega) h4 h5 (by rw [hcl, hsz]; exact v2) (by rw [hcl, hsz]; omega) v4
  refine ⟨?_, ?_, t1, by omega, ?_⟩
  · rw [List.length_append, h1]; show _ + 5 = _; omega
  · rw [t2, List.length_append, h2]; show _ + 5 = _; omega
  · have e5 : 5 * k + 5 = (runT [] os).1.length + 4 := by rw [h2]
    rw [t2, e5, getD_high, hsn, rn_append]
    show _ = (mk (rn s (es.take k)) es[k]).data.toList
    rw [mk_list _ _ (by rw [hsz]; exact v2)]; rfl
theorem vld_pc (es : List Ed) (n : Nat) (hv : vld n es) (hn : n ≤ 600) (k : Nat) (hk : k < es.length) : es[k].p + es[k].c ≤ n + 8 * es.length := by
  have hsn : es.take (k + 1) = es.take k ++ [es[k]] := List.take_succ_eq_append_getElem hk
  have hvk : vld n (es.take k ++ [es[k]]) := by
    have h9 : ∀ (a b : List Ed) n, vld n (a ++ b) → vld n a := by
      intro a b
      induction a with
      | nil => intro n _; trivial
      | cons x a ih => intro n hh; exact ⟨hh.1, hh.2.1, hh.2.2.1, ih _ hh.2.2.2⟩
    refine h9 (es.take k ++ [es[k]]) (es.drop (k + 1)) _ ?_
    rw [← hsn, List.take_append_drop]; exact hv
  obtain ⟨v1, v2, v3, v4⟩ := (vld_snoc _ _ _).1 hvk
  have hsl := sized_le (es.take k) _ v1
  rw [List.length_take] at hsl
  omega
theorem odp_22 (o : Option T) (hok : ook o) (hl : (otx o).length ≤ 200) : odp o ≤ 22 ∧ (odp o = 0 ↔ otx o = []) := by
  cases o with
  | none => exact ⟨Nat.zero_le _, fun _ => rfl, fun _ => rfl⟩
  | some t =>
    have h1 := t.dp_pos
    refine ⟨?_, fun h => ?_, fun h => ?_⟩
    · show t.dp ≤ 22
      have hl' : t.tx.length ≤ 200 := hl
      by_cases hd : 2 * 8 + 1 ≤ t.dp
      · have := t.dp_log 8 hok hd
        omega
      · omega
    · have : t.dp = 0 := h
      omega
    · have h2 := t.tx_pos hok
      have h3 : t.tx = [] := h
      rw [h3] at h2
      simp at h2
end Go.Proofs.Ytddbhoilhapljaa
