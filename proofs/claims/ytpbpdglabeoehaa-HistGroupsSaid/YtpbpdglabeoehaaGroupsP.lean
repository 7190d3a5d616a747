/-
  Plain mathematics of groups that are closed between: each Undo takes one of them back. No function of the program is spoken of here.
-/
import Derived.Test.YtpbpdglabeoehaaHistBeginW
namespace Go.Proofs.Ytpbpdglabeoehaa
set_option linter.unusedVariables false

def ch : ByteArray → List Grp → List ByteArray → Prop
  | t, [], ws => ws = [t]
  | t, g :: us, ws => ∃ ws', ws = t :: ws' ∧ ch (rn t g.back.reverse) us ws'
theorem ch_head (us : List Grp) (t : ByteArray) (ws : List ByteArray) (h : ch t us ws) : ws[0]? = some t := by
  cases us with
  | nil => rw [show ws = [t] from h]; rfl
  | cons g us => obtain ⟨ws', rfl, _⟩ := h; rfl
theorem ch_undo (us : List Grp) : ∀ (t : ByteArray) (ws : List ByteArray) (H : Hs), ch t us ws → H.text = t → H.undo = us.reverse → ∀ i, i < us.length →
    (play H (List.replicate us.length .undo)).2.1[i]? = ws[i + 1]? ∧ (play H (List.replicate us.length .undo)).2.2[i]? = some 0 := by
  induction us with
  | nil => intro t ws H _ _ _ i hi; simp at hi
  | cons g us ih =>
    intro t ws H hc ht hu i hi
    obtain ⟨ws', rfl, hc'⟩ := hc
    obtain ⟨t', u', r', o'⟩ := H
    simp only at ht hu
    subst ht
    rw [List.reverse_cons] at hu
    subst hu
    have hd : deed ⟨t', us.reverse ++ [g], r', o'⟩ .undo = (⟨rn t' g.back.reverse, us.reverse, r' ++ [g], false⟩, 0) := by simp [deed]
    rw [List.length_cons, List.replicate_succ]
    simp only [play, hd]
    cases i with
    | zero => exact ⟨by simpa using (ch_head us _ _ hc').symm, rfl⟩
    | succ i => exact ih _ ws' ⟨rn t' g.back.reverse, us.reverse, r' ++ [g], false⟩ hc' rfl rfl i (by simpa using hi)
structure GI (s : ByteArray) (es : List Ed) (k : Nat) (ds : List Dd) (want : List ByteArray) : Prop where
  len : ds.length ≤ 2 * k
  ok : ∀ d ∈ ds, dOk d
  wl : want.length ≤ k + 1
  text : (after (h0s s) ds).text = rn s (es.take k)
  redo : (after (h0s s) ds).redo = []
  opn : (after (h0s s) ds).opn = true → ∃ us g, (after (h0s s) ds).undo = us ++ [g] ∧ us.length + 1 = want.length ∧ ch (rn (after (h0s s) ds).text g.back.reverse) us.reverse want.reverse
  shut : (after (h0s s) ds).opn = false → (after (h0s s) ds).undo.length + 1 = want.length ∧ ch (after (h0s s) ds).text (after (h0s s) ds).undo.reverse want.reverse
  done : k = es.length → (after (h0s s) ds).opn = false
theorem gi_new (s : ByteArray) (es : List Ed) : GI s es 0 [] [s] :=
  ⟨by simp, by simp, by simp, rfl, rfl, (by intro h; cases h), fun _ => ⟨rfl, rfl⟩, fun _ => rfl⟩
theorem step_ok (s : ByteArray) (es : List Ed) (k : Nat) (hk : k < es.length) (hs : s.size ≤ 40) (hl : es.length ≤ 15) (hv : vld s.size es) :
    es[k].p + es[k].c ≤ (rn s (es.take k)).size ∧ (rn s (es.take k)).size ≤ 600 ∧ chk (rn s (es.take k)).size es[k] = 0 ∧ dOk (.do_ es[k]) := by
  have ho := okr_of_vld es s.size hv (by omega)
  have h1 := okr_atH es s k hk (by omega) ho
  have h2 : okr s.size (es.take k) ∧ okr (sized s.size (es.take k)) (es.drop k) := by rw [← okr_append, List.take_append_drop]; exact ho
  have h3 := rn_size _ s h2.1
  rw [List.drop_eq_getElem_cons hk] at h2
  have h4 := h2.2
  rw [← h3] at h4
  obtain ⟨a1, a2, _⟩ := h4
  have hp := okr_putH es s.size (by omega) ho es[k] (List.getElem_mem hk)
  refine ⟨a1, h1.1, ?_, by omega, by omega, by omega⟩
  unfold chk
  rw [if_neg (by omega), if_neg (by omega)]
/-- One edit more; the group stays open. -/
theorem gi_did {s : ByteArray} {es : List Ed} {k : Nat} {ds : List Dd} {want : List ByteArray} (h : GI s es k ds want) (hk : k < es.length) (hs : s.size ≤ 40) (hl : es.length ≤ 15) (hv : vld s.size es) :
    (after (h0s s) (ds ++ [.do_ es[k]])).text = rn s (es.take (k + 1)) ∧ (after (h0s s) (ds ++ [.do_ es[k]])).redo = [] ∧ (after (h0s s) (ds ++ [.do_ es[k]])).opn = true ∧
    ∃ us g, (after (h0s s) (ds ++ [.do_ es[k]])).undo = us ++ [g] ∧ us.length + 1 = want.length ∧ ch (rn (after (h0s s) (ds ++ [.do_ es[k]])).text g.back.reverse) us.reverse want.reverse := by
  obtain ⟨a1, a2, a3, a4⟩ := step_ok s es k hk hs hl hv
  have e : after (h0s s) (ds ++ [.do_ es[k]]) = (deed (after (h0s s) ds) (.do_ es[k])).1 := by rw [after_append]; rfl
  have ht := h.text
  have hr := h.redo
  have ho := h.opn
  have hc := h.shut
  have hw := h.wl
  rw [e, rn_takeH es s k hk]
  generalize hH : after (h0s s) ds = H at *
  obtain ⟨t, us0, rs, o⟩ := H
  simp only at ht hr ho hc
  subst ht
  have hd : deed ⟨rn s (es.take k), us0, rs, o⟩ (.do_ es[k]) = (⟨mk (rn s (es.take k)) es[k], addTo (opened ⟨rn s (es.take k), us0, rs, o⟩) es[k] (unmk (rn s (es.take k)) es[k]), [], true⟩, 0) := by simp [deed, a3]
  rw [hd]
  refine ⟨rfl, rfl, rfl, ?_⟩
  have hum := unmk_mk (rn s (es.take k)) es[k] a1
  cases o with
  | true =>
    obtain ⟨us, g, rfl, h1, h2⟩ := ho rfl
    refine ⟨us, ⟨g.done ++ [es[k]], g.back ++ [unmk (rn s (es.take k)) es[k]]⟩, by simp [opened, addTo_snoc], h1, ?_⟩
    have e9 : rn (mk (rn s (es.take k)) es[k]) (g.back ++ [unmk (rn s (es.take k)) es[k]]).reverse = rn (rn s (es.take k)) g.back.reverse := by
      rw [List.reverse_append, List.reverse_cons, List.reverse_nil, List.nil_append, List.singleton_append, rn, hum]
    simp only [e9]
    exact h2
  | false =>
    obtain ⟨h1, h2⟩ := hc rfl
    refine ⟨us0, ⟨[] ++ [es[k]], [] ++ [unmk (rn s (es.take k)) es[k]]⟩, ?_, h1, ?_⟩
    · simp only [opened, trim]
      rw [if_neg (by simp), if_neg (by simp; omega), addTo_snoc]
    · have e9 : rn (mk (rn s (es.take k)) es[k]) ([] ++ [unmk (rn s (es.take k)) es[k]]).reverse = rn s (es.take k) := by
        rw [List.nil_append, List.reverse_cons, List.reverse_nil, List.nil_append, rn, rn, hum]
      simp only [e9]
      exact h2
theorem gi_open {s : ByteArray} {es : List Ed} {k : Nat} {ds : List Dd} {want : List ByteArray} (h : GI s es k ds want) (hk : k < es.length) (hs : s.size ≤ 40) (hl : es.length ≤ 15) (hv : vld s.size es) (hne : k + 1 ≠ es.length) :
    GI s es (k + 1) (ds ++ [.do_ es[k]]) want := by
  obtain ⟨h1, h2, h3, h4⟩ := gi_did h hk hs hl hv
  have a4 := (step_ok s es k hk hs hl hv).2.2.2
  refine ⟨by have := h.len; simp; omega, ?_, by have := h.wl; omega, h1, h2, fun _ => h4, fun e => (by rw [h3] at e; cases e), fun e => absurd e hne⟩
  intro d hd
  rcases List.mem_append.1 hd with hd | hd
  · exact h.ok d hd
  · simp at hd; subst hd; exact a4
theorem gi_close {s : ByteArray} {es : List Ed} {k : Nat} {ds : List Dd} {want : List ByteArray} (h : GI s es k ds want) (hk : k < es.length) (hs : s.size ≤ 40) (hl : es.length ≤ 15) (hv : vld s.size es) :
    GI s es (k + 1) ((ds ++ [.do_ es[k]]) ++ [.close]) (want ++ [rn s (es.take (k + 1))]) := by
  obtain ⟨h1, h2, h3, us, g, h4, h5, h6⟩ := gi_did h hk hs hl hv
  have a4 := (step_ok s es k hk hs hl hv).2.2.2
  have e : after (h0s s) ((ds ++ [.do_ es[k]]) ++ [.close]) = { after (h0s s) (ds ++ [.do_ es[k]]) with opn := false } := by rw [after_append]; rfl
  refine ⟨by have := h.len; simp; omega, ?_, by have := h.wl; simp; omega, by rw [e]; exact h1, by rw [e]; exact h2, fun x => (by rw [e] at x; cases x), fun _ => ?_, fun _ => by rw [e]⟩
  · intro d hd
    rcases List.mem_append.1 hd with hd | hd
    · rcases List.mem_append.1 hd with hd | hd
      · exact h.ok d hd
      · simp at hd; subst hd; exact a4
    · simp at hd; subst hd; trivial
  · rw [e]
    simp only
    rw [h4, h1] at *
    refine ⟨by simp; omega, ?_⟩
    rw [List.reverse_append, List.reverse_append, List.reverse_cons, List.reverse_nil, List.nil_append, List.singleton_append, List.reverse_cons, List.reverse_nil, List.nil_append, List.singleton_append]
    exact ⟨_, rfl, h6⟩
/-- At last: as many groups as texts were wanted but one, and each Undo gives the one before. -/
theorem gi_fin {s : ByteArray} {es : List Ed} {ds : List Dd} {want : List ByteArray} (h : GI s es es.length ds want) (m : Nat) (hm : want.length = m + 1) :
    (after (h0s s) ds).undo.length = m ∧ (after (h0s s) ds).redo.length = 0 ∧ ∀ i, i < m →
      (play (h0s s) (ds ++ List.replicate m .undo)).2.1[ds.length + i]? = want[m - 1 - i]? ∧ (play (h0s s) (ds ++ List.replicate m .undo)).2.2[ds.length + i]? = some 0 := by
  obtain ⟨h1, h2⟩ := h.shut (h.done rfl)
  have hu : (after (h0s s) ds).undo.length = m := by omega
  refine ⟨hu, by rw [h.redo]; rfl, fun i hi => ?_⟩
  have h3 := ch_undo _ _ _ (after (h0s s) ds) h2 rfl (by rw [List.reverse_reverse]) i (by rw [List.length_reverse]; omega)
  rw [List.length_reverse, hu] at h3
  have hl := play_len ds (h0s s)
  rw [play_append]
  constructor
  · rw [List.getElem?_append_right (by omega), hl.1, Nat.add_sub_cancel_left, h3.1, List.getElem?_reverse (by omega)]
    congr 1; omega
  · rw [List.getElem?_append_right (by omega), hl.2, Nat.add_sub_cancel_left, h3.2]
end Go.Proofs.Ytpbpdglabeoehaa
