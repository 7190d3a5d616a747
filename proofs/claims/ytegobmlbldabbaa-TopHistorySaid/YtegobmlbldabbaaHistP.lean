/-
  Plain mathematics of a history of edits: groups that are undone and done again. No function of the program is spoken of here.
-/
import Derived.Test.YtegobmlbldabbaaEdits
namespace Go.Proofs.Ytegobmlbldabbaa
set_option linter.unusedVariables false

structure Grp where
  done : List Ed
  back : List Ed
structure Hs where
  text : ByteArray
  undo : List Grp
  redo : List Grp
  opn : Bool
inductive Dd where
  | do_ (e : Ed)
  | close
  | undo
  | redo
def chk (n : Nat) (e : Ed) : Nat := if n < e.p ∨ n - e.p < e.c then 2 else if 600 < n - e.c + e.put.size then 1 else 0
theorem chk_ok {n : Nat} {e : Ed} (h : chk n e = 0) : e.p + e.c ≤ n ∧ n - e.c + e.put.size ≤ 600 := by
  unfold chk at h
  split at h
  · omega
  · split at h
    · omega
    · omega
/-- To the last group an edit and the one that undoes it are added. -/
def addTo (l : List Grp) (e b : Ed) : List Grp :=
  match l.getLast? with
  | none => []
  | some g => l.dropLast ++ [⟨g.done ++ [e], g.back ++ [b]⟩]
theorem addTo_snoc (l : List Grp) (g : Grp) (e b : Ed) : addTo (l ++ [g]) e b = l ++ [⟨g.done ++ [e], g.back ++ [b]⟩] := by simp [addTo]
def trim (l : List Grp) : List Grp := if 20 < l.length then l.drop 1 else l
def opened (h : Hs) : List Grp := if h.opn then h.undo else trim (h.undo ++ [⟨[], []⟩])
def deed (h : Hs) : Dd → Hs × Nat
  | .do_ e => if chk h.text.size e = 0 then (⟨mk h.text e, addTo (opened h) e (unmk h.text e), [], true⟩, 0) else (h, chk h.text.size e)
  | .close => ({ h with opn := false }, 0)
  | .undo =>
    match h.undo.getLast? with
    | none => (h, 7)
    | some g => (⟨rn h.text g.back.reverse, h.undo.dropLast, h.redo ++ [g], false⟩, 0)
  | .redo =>
    match h.redo.getLast? with
    | none => (h, 7)
    | some g => (⟨rn h.text g.done, h.undo ++ [g], h.redo.dropLast, false⟩, 0)
/-- The groups that may be undone, the last one first: they lead from b to t. -/
def UN (b : ByteArray) : ByteArray → List Grp → Prop
  | t, [] => t = b
  | t, g :: us => ∃ t0 : ByteArray, t0.size ≤ 600 ∧ okr t0.size g.done ∧ t = rn t0 g.done ∧ g.back = bk t0 g.done ∧ UN b t0 us
/-- The groups that may be done again, the last one first. -/
def RN : ByteArray → List Grp → Prop
  | _, [] => True
  | t, g :: rs => okr t.size g.done ∧ g.back = bk t g.done ∧ RN (rn t g.done) rs
theorem UN_trim (us : List Grp) (g : Grp) : ∀ (b t : ByteArray), UN b t (us ++ [g]) → ∃ b', UN b' t us := by
  induction us with
  | nil => intro b t _; exact ⟨t, rfl⟩
  | cons u us ih =>
    intro b t ⟨t0, h1, h2, h3, h4, h5⟩
    obtain ⟨b', h6⟩ := ih b t0 h5
    exact ⟨b', t0, h1, h2, h3, h4, h6⟩
structure Good (n : Nat) (b : ByteArray) (h : Hs) : Prop where
  size : h.text.size ≤ 600
  un : UN b h.text h.undo.reverse
  rnn : RN h.text h.redo.reverse
  few : h.undo.length + h.redo.length ≤ 20
  opn : h.opn = true → h.undo ≠ [] ∧ h.redo = []
  len : ∀ g ∈ h.undo ++ h.redo, g.done.length ≤ n ∧ g.back.length = g.done.length
theorem Good.new (s : ByteArray) (h : s.size ≤ 600) : Good 0 s ⟨s, [], [], false⟩ :=
  ⟨h, rfl, trivial, by simp, by simp, by simp⟩
theorem rn_ok (t : ByteArray) (l : List Ed) (h : t.size ≤ 600) (ho : okr t.size l) : (rn t l).size ≤ 600 := by
  rw [rn_size l t ho]; exact sized_600 l _ h ho
theorem chk_okr {t : ByteArray} {e : Ed} (h : chk t.size e = 0) : okr t.size [e] := by
  have := chk_ok h
  exact ⟨this.1, by omega, trivial⟩
theorem Good.more {n m : Nat} {b : ByteArray} {h : Hs} (g : Good n b h) (hm : n ≤ m) : Good m b h :=
  ⟨g.size, g.un, g.rnn, g.few, g.opn, fun x hx => ⟨Nat.le_trans (g.len x hx).1 hm, (g.len x hx).2⟩⟩
theorem good_undo {n : Nat} {b : ByteArray} {t : ByteArray} {us rs : List Grp} {g : Grp} {o : Bool} (h : Good n b ⟨t, us ++ [g], rs, o⟩) :
    Good n b ⟨rn t g.back.reverse, us, rs ++ [g], false⟩ ∧ okr t.size g.back.reverse ∧ rn (rn t g.back.reverse) g.done = t ∧ okr (rn t g.back.reverse).size g.done := by
  have h1 := h.un
  simp only [List.reverse_append, List.reverse_cons, List.reverse_nil, List.nil_append, List.singleton_append] at h1
  obtain ⟨t0, a1, a2, a3, a4, a5⟩ := h1
  have h2 := back_rn g.done t0 a1 a2
  subst a3
  have e : rn (rn t0 g.done) g.back.reverse = t0 := by rw [a4]; exact h2.2
  refine ⟨⟨?_, ?_, ?_, ?_, by simp, ?_⟩, by rw [a4]; exact h2.1, by rw [e], by rw [e]; exact a2⟩
  · show (rn (rn t0 g.done) g.back.reverse).size ≤ 600; rw [e]; exact a1
  · show UN b (rn (rn t0 g.done) g.back.reverse) us.reverse; rw [e]; exact a5
  · show RN (rn (rn t0 g.done) g.back.reverse) (rs ++ [g]).reverse
    rw [e, List.reverse_append, List.reverse_cons, List.reverse_nil, List.nil_append, List.singleton_append]
    exact ⟨a2, a4, h.rnn⟩
  · have := h.few; simp at this ⊢; omega
  · intro x hx
    refine h.len x ?_
    simp at hx ⊢
    rcases hx with h | h | h
    · exact .inl h
    · exact .inr (.inr h)
    · exact .inr (.inl h)
theorem good_redo {n : Nat} {b : ByteArray} {t : ByteArray} {us rs : List Grp} {g : Grp} {o : Bool} (h : Good n b ⟨t, us, rs ++ [g], o⟩) :
    Good n b ⟨rn t g.done, us ++ [g], rs, false⟩ ∧ okr t.size g.done ∧ rn (rn t g.done) g.back.reverse = t := by
  have h1 := h.rnn
  simp only [List.reverse_append, List.reverse_cons, List.reverse_nil, List.nil_append, List.singleton_append] at h1
  obtain ⟨a2, a4, a5⟩ := h1
  have h2 := back_rn g.done t h.size a2
  refine ⟨⟨rn_ok _ _ h.size a2, ?_, a5, ?_, by simp, ?_⟩, a2, by rw [a4]; exact h2.2⟩
  · show UN b (rn t g.done) (us ++ [g]).reverse
    rw [List.reverse_append, List.reverse_cons, List.reverse_nil, List.nil_append, List.singleton_append]
    exact ⟨t, h.size, a2, rfl, a4, h.un⟩
  · have := h.few; simp at this ⊢; omega
  · intro x hx
    refine h.len x ?_
    simp at hx ⊢
    rcases hx with h | h | h
    · exact .inl h
    · exact .inr (.inr h)
    · exact .inr (.inl h)
theorem snocG (l : List Grp) : l = [] ∨ ∃ m g, l = m ++ [g] := by
  rcases List.eq_nil_or_concat l with h | ⟨m, s, h⟩
  · exact .inl h
  · exact .inr ⟨m, s, by simpa using h⟩
theorem good_add {n : Nat} {b : ByteArray} {t : ByteArray} {us : List Grp} {g : Grp} {e : Ed} (hs : t.size ≤ 600) (hu : UN b t (us ++ [g]).reverse) (hf : (us ++ [g]).length ≤ 20)
    (hl : ∀ x ∈ us ++ [g], x.done.length ≤ n ∧ x.back.length = x.done.length) (hc : chk t.size e = 0) :
    Good (n + 1) b ⟨mk t e, us ++ [⟨g.done ++ [e], g.back ++ [unmk t e]⟩], [], true⟩ := by
  have ho := chk_okr hc
  simp only [List.reverse_append, List.reverse_cons, List.reverse_nil, List.nil_append, List.singleton_append] at hu
  obtain ⟨t0, a1, a2, a3, a4, a5⟩ := hu
  refine ⟨?_, ?_, trivial, by simpa using hf, fun _ => ⟨by simp, rfl⟩, ?_⟩
  · have := chk_ok hc
    show (mk t e).size ≤ 600
    rw [mk_size t e this.1]; omega
  · show UN b (mk t e) _
    simp only [List.reverse_append, List.reverse_cons, List.reverse_nil, List.nil_append, List.singleton_append]
    refine ⟨t0, a1, ?_, ?_, ?_, a5⟩
    · rw [okr_append]; refine ⟨a2, ?_⟩; rw [← rn_size _ _ a2, ← a3]; exact ho
    · rw [rn_append, ← a3]; rfl
    · rw [bk_append, ← a3, ← a4]; rfl
  · intro x hx
    simp at hx
    rcases hx with hx | rfl
    · have := hl x (by simp [hx]); exact ⟨by omega, this.2⟩
    · have := hl g (by simp); simp; omega
/-- What a deed keeps; the beginning stays as long as no group is thrown away. -/
theorem deed_good (n : Nat) (b : ByteArray) (h : Hs) (d : Dd) (g : Good n b h) : ∃ b', Good (n + 1) b' (deed h d).1 ∧ (h.undo.length < 20 → b' = b) := by
  obtain ⟨t, us, rs, o⟩ := h
  cases d with
  | do_ e =>
    unfold deed
    by_cases hc : chk t.size e = 0
    · simp only [hc, if_true]
      cases o with
      | true =>
        have h1 := (g.opn rfl).1
        rcases snocG us with rfl | ⟨m, x, rfl⟩
        · exact absurd rfl h1
        · refine ⟨b, ?_, fun _ => rfl⟩
          simp only [opened, if_true, addTo_snoc]
          have hf := g.few
          exact good_add g.size g.un (by simp only at hf; omega) (fun y hy => g.len y (List.mem_append.2 (.inl hy))) hc
      | false =>
        have hu : UN b t (us ++ [(⟨[], []⟩ : Grp)]).reverse := by
          simp only [List.reverse_append, List.reverse_cons, List.reverse_nil, List.nil_append, List.singleton_append]
          exact ⟨t, g.size, trivial, rfl, rfl, g.un⟩
        have hl : ∀ x ∈ us ++ [(⟨[], []⟩ : Grp)], x.done.length ≤ n ∧ x.back.length = x.done.length := by
          intro x hx
          rcases List.mem_append.1 hx with h | h
          · exact g.len x (List.mem_append.2 (.inl h))
          · simp at h; subst h; simp
        have hf := g.few
        simp only at hf
        by_cases h20 : us.length < 20
        · refine ⟨b, ?_, fun _ => rfl⟩
          have e1 : opened ⟨t, us, rs, false⟩ = us ++ [⟨[], []⟩] := by
            simp only [opened, trim]; rw [if_neg (by simp), if_neg (by simp; omega)]
          rw [e1, addTo_snoc]
          exact good_add g.size hu (by simp; omega) hl hc
        · rcases us with _ | ⟨u, us⟩
          · simp at h20
          · have e1 : opened ⟨t, u :: us, rs, false⟩ = us ++ [⟨[], []⟩] := by
              simp only [opened, trim]; rw [if_neg (by simp), if_pos (by simp at h20 ⊢; omega)]; simp
            have hu2 : UN b t ((us ++ [(⟨[], []⟩ : Grp)]).reverse ++ [u]) := by simpa using hu
            obtain ⟨b', hb'⟩ := UN_trim _ _ _ _ hu2
            refine ⟨b', ?_, fun h => absurd h h20⟩
            rw [e1, addTo_snoc]
            exact good_add g.size hb' (by simp at hf ⊢; omega) (fun y hy => hl y (by simp at hy ⊢; rcases hy with h | h; exact .inr (.inl h); exact .inr (.inr h))) hc
    · simp only [hc, if_false]
      exact ⟨b, g.more (by omega), fun _ => rfl⟩
  | close => exact ⟨b, ⟨g.size, g.un, g.rnn, g.few, by simp [deed], fun x hx => ⟨Nat.le_succ_of_le (g.len x hx).1, (g.len x hx).2⟩⟩, fun _ => rfl⟩
  | undo =>
    rcases snocG us with rfl | ⟨m, x, rfl⟩
    · exact ⟨b, g.more (by omega), fun _ => rfl⟩
    · refine ⟨b, ?_, fun _ => rfl⟩
      have := (good_undo g).1.more (Nat.le_succ n)
      simpa [deed] using this
  | redo =>
    rcases snocG rs with rfl | ⟨m, x, rfl⟩
    · exact ⟨b, g.more (by omega), fun _ => rfl⟩
    · refine ⟨b, ?_, fun _ => rfl⟩
      have := (good_redo g).1.more (Nat.le_succ n)
      simpa [deed] using this
/-- A play of deeds: where it ends, the texts behind each one, and the codes. -/
def play : Hs → List Dd → Hs × List ByteArray × List Nat
  | h, [] => (h, [], [])
  | h, d :: ds =>
    let r := play (deed h d).1 ds
    (r.1, (deed h d).1.text :: r.2.1, (deed h d).2 :: r.2.2)
def after (h : Hs) (ds : List Dd) : Hs := ds.foldl (fun h d => (deed h d).1) h
theorem play_after (ds : List Dd) : ∀ h, (play h ds).1 = after h ds := by
  induction ds with
  | nil => intro h; rfl
  | cons d ds ih => intro h; exact ih _
theorem play_append (a b : List Dd) : ∀ h, play h (a ++ b) = ((play (after h a) b).1, (play h a).2.1 ++ (play (after h a) b).2.1, (play h a).2.2 ++ (play (after h a) b).2.2) := by
  induction a with
  | nil => intro h; rfl
  | cons d a ih => intro h; simp only [List.cons_append, play, ih]; rfl
theorem play_len (ds : List Dd) : ∀ h, (play h ds).2.1.length = ds.length ∧ (play h ds).2.2.length = ds.length := by
  induction ds with
  | nil => intro h; exact ⟨rfl, rfl⟩
  | cons d ds ih => intro h; simp [play, ih]
theorem after_append (a b : List Dd) (h : Hs) : after h (a ++ b) = after (after h a) b := by simp [after]
theorem deed_refused (h : Hs) (d : Dd) (he : (deed h d).2 ≠ 0) : (deed h d).1 = h := by
  obtain ⟨t, us, rs, o⟩ := h
  cases d with
  | do_ e =>
    unfold deed at he ⊢
    by_cases hc : chk t.size e = 0
    · simp only [hc, if_true] at he; exact absurd rfl he
    · simp only [hc, if_false]
  | close => exact absurd rfl he
  | undo =>
    rcases snocG us with rfl | ⟨m, x, rfl⟩
    · rfl
    · simp [deed] at he
  | redo =>
    rcases snocG rs with rfl | ⟨m, x, rfl⟩
    · rfl
    · simp [deed] at he
/-- The deeds that are not refused, and the texts behind them. -/
def fewD : Hs → List Dd → List Dd
  | _, [] => []
  | h, d :: ds => if (deed h d).2 = 0 then d :: fewD (deed h d).1 ds else fewD h ds
def fewT : Hs → List Dd → List ByteArray
  | _, [] => []
  | h, d :: ds => if (deed h d).2 = 0 then (deed h d).1.text :: fewT (deed h d).1 ds else fewT h ds
theorem few_play (ds : List Dd) : ∀ h, (play h (fewD h ds)).2.1 = fewT h ds := by
  induction ds with
  | nil => intro h; rfl
  | cons d ds ih =>
    intro h
    unfold fewD fewT
    split
    · simp only [play]; rw [ih]
    · exact ih h
/-- So often back, and as often there again. -/
theorem there (k : Nat) : ∀ (n : Nat) (b : ByteArray) (h : Hs), Good n b h → k ≤ h.undo.length →
    after h (List.replicate k .undo ++ List.replicate k .redo) = ⟨h.text, h.undo, h.redo, if k = 0 then h.opn else false⟩ ∧
    ∀ c ∈ (play h (List.replicate k .undo ++ List.replicate k .redo)).2.2, c = 0 := by
  induction k with
  | zero => intro n b h g _; exact ⟨rfl, by simp [play]⟩
  | succ k ih =>
    intro n b h g hk
    obtain ⟨t, us, rs, o⟩ := h
    rcases snocG us with rfl | ⟨m, x, rfl⟩
    · simp at hk
    · have g1 := good_undo g
      have h1 : deed ⟨t, m ++ [x], rs, o⟩ .undo = (⟨rn t x.back.reverse, m, rs ++ [x], false⟩, 0) := by simp [deed]
      have hk' : k ≤ m.length := by simp at hk; omega
      obtain ⟨i1, i2⟩ := ih n b _ g1.1 hk'
      have e0 : (List.replicate (k + 1) Dd.undo ++ List.replicate (k + 1) Dd.redo) = Dd.undo :: ((List.replicate k Dd.undo ++ List.replicate k Dd.redo) ++ [Dd.redo]) := by
        rw [List.replicate_succ, List.replicate_succ', List.cons_append, List.append_assoc]
      have h2 : deed ⟨rn t x.back.reverse, m, rs ++ [x], if k = 0 then false else false⟩ .redo = (⟨t, m ++ [x], rs, false⟩, 0) := by
        simp only [deed]; simp [g1.2.2.1]
      have e1 : after ⟨t, m ++ [x], rs, o⟩ (Dd.undo :: ((List.replicate k Dd.undo ++ List.replicate k Dd.redo) ++ [Dd.redo])) = after (after ⟨rn t x.back.reverse, m, rs ++ [x], false⟩ (List.replicate k Dd.undo ++ List.replicate k Dd.redo)) [Dd.redo] := by
        rw [← after_append]; show after (deed _ _).1 _ = _; rw [h1]
      refine ⟨?_, ?_⟩
      · rw [e0, e1, i1]
        show (deed _ _).1 = _
        rw [h2, if_neg (by omega)]
      · rw [e0]
        intro c hc
        have e2 : (play ⟨t, m ++ [x], rs, o⟩ (Dd.undo :: ((List.replicate k Dd.undo ++ List.replicate k Dd.redo) ++ [Dd.redo]))).2.2 = (deed ⟨t, m ++ [x], rs, o⟩ .undo).2 :: (play (deed ⟨t, m ++ [x], rs, o⟩ .undo).1 ((List.replicate k Dd.undo ++ List.replicate k Dd.redo) ++ [Dd.redo])).2.2 := rfl
        rw [e2, h1, play_append, i1] at hc
        simp only [List.mem_cons, List.mem_append] at hc
        rcases hc with rfl | hc | hc
        · rfl
        · exact i2 c hc
        · simp only [play, h2, List.mem_singleton] at hc
          exact hc
/-- All undone. -/
theorem undone (k : Nat) : ∀ (n : Nat) (b : ByteArray) (h : Hs), Good n b h → h.undo.length ≤ k → (after h (List.replicate k .undo)).undo = [] ∧ (after h (List.replicate k .undo)).text = b := by
  induction k with
  | zero =>
    intro n b h g hk
    have : h.undo = [] := List.length_eq_zero_iff.1 (by omega)
    have hu := g.un
    rw [this] at hu
    exact ⟨this, hu⟩
  | succ k ih =>
    intro n b h g hk
    obtain ⟨t, us, rs, o⟩ := h
    rw [List.replicate_succ]
    show (after (deed _ _).1 _).undo = [] ∧ (after (deed _ _).1 _).text = b
    rcases snocG us with rfl | ⟨m, x, rfl⟩
    · have : deed ⟨t, [], rs, o⟩ .undo = (⟨t, [], rs, o⟩, 7) := rfl
      rw [this]
      exact ih n b _ g (by simp)
    · have h1 : deed ⟨t, m ++ [x], rs, o⟩ .undo = (⟨rn t x.back.reverse, m, rs ++ [x], false⟩, 0) := by simp [deed]
      rw [h1]
      exact ih n b _ (good_undo g).1 (by simp at hk ⊢; omega)
theorem deed_undo_len (h : Hs) (d : Dd) : (deed h d).1.undo.length + (deed h d).1.redo.length ≤ h.undo.length + h.redo.length + 1 := by
  obtain ⟨t, us, rs, o⟩ := h
  cases d with
  | do_ e =>
    unfold deed
    by_cases hc : chk t.size e = 0
    · simp only [hc, if_true]
      have h1 : ∀ l : List Grp, (addTo l e (unmk t e)).length ≤ l.length := by
        intro l
        rcases snocG l with rfl | ⟨m, x, rfl⟩
        · simp [addTo]
        · rw [addTo_snoc]; simp
      have h2 : (opened ⟨t, us, rs, o⟩).length ≤ us.length + 1 := by
        unfold opened trim
        split
        · simp
        · split <;> simp
      have := h1 (opened ⟨t, us, rs, o⟩)
      simp; omega
    · simp only [hc, if_false]; omega
  | close => simp [deed]
  | undo =>
    rcases snocG us with rfl | ⟨m, x, rfl⟩
    · simp [deed]
    · simp [deed]; omega
  | redo =>
    rcases snocG rs with rfl | ⟨m, x, rfl⟩
    · simp [deed]
    · simp [deed]; omega
/-- Few deeds throw no group away. -/
theorem after_good (ds : List Dd) : ∀ (n : Nat) (b : ByteArray) (h : Hs), Good n b h → h.undo.length + h.redo.length + ds.length ≤ 20 → Good (n + ds.length) b (after h ds) ∧ (after h ds).undo.length ≤ 20 := by
  induction ds with
  | nil => intro n b h g hk; exact ⟨g, by have := g.few; show h.undo.length ≤ 20; omega⟩
  | cons d ds ih =>
    intro n b h g hk
    obtain ⟨b', g', hb⟩ := deed_good n b h d g
    simp only [List.length_cons] at hk
    have := hb (by omega)
    subst this
    have h2 := deed_undo_len h d
    obtain ⟨i1, i2⟩ := ih (n + 1) b' _ g' (by omega)
    refine ⟨?_, i2⟩
    rw [List.length_cons, show n + (ds.length + 1) = n + 1 + ds.length by omega]
    exact i1
theorem after_any (ds : List Dd) : ∀ (n : Nat) (b : ByteArray) (h : Hs), Good n b h → ∃ b', Good (n + ds.length) b' (after h ds) := by
  induction ds with
  | nil => intro n b h g; exact ⟨b, g⟩
  | cons d ds ih =>
    intro n b h g
    obtain ⟨b', g', _⟩ := deed_good n b h d g
    obtain ⟨b2, i⟩ := ih (n + 1) b' _ g'
    exact ⟨b2, by rw [List.length_cons, show n + (ds.length + 1) = n + 1 + ds.length by omega]; exact i⟩
end Go.Proofs.Ytegobmlbldabbaa
