/-
  How the lists of a history grow and shrink in memory: a group is pushed, popped, or written to while it is open. No function of the program is walked here.
-/
import Derived.Test.YtegobmlbldabbaaHistM
namespace Go.Proofs.Ytegobmlbldabbaa
open Go.RowKit
set_option linter.unusedVariables false

structure HQ (w : World) (B R M : Nat) (cs : Array Value) (v1 v2 : Value) (l1 l2 : List GE) : Prop where
  hist : Blk w R 153 cs
  rb : B ≤ R
  mb : B ≤ M
  ms : M ≤ w.heap.size
  un : OffRow w B 173 2 v1 l1.length (cellsOf gc l1)
  re : OffRow w B 173 2 v2 l2.length (cellsOf gc l2)
  ne : ∀ g, offBlock v1 = some g → offBlock v2 ≠ some g
  fu : ∀ x ∈ l1 ++ l2, FR w M x.d x.g.done ∧ FR w M x.b x.g.back
theorem off_apart {w : World} {B n : Nat} {v : Value} {xs : List Value} (h : OffRow w B 173 2 v n xs) : Apart w (offBlock v) := by
  rcases h.2 with ⟨_, A, rfl⟩ | ⟨g, o, cap, cur, rfl, h0, hb, hh, _⟩
  · cases A <;> exact .inl rfl
  · exact .inr ⟨g, _, cur, offBlock_some _ _ _ h0, hh, by decide⟩
theorem own_off_ne {w : World} {B M n m : Nat} {v u : Value} {xs ys : List Value} (h : OffRow w B 173 2 v n xs) (k : w.ownsRow M 34 3 u m ys) : offBlock v = none ∨ offBlock v ≠ u.ownBlock := by
  cases hv : offBlock v with
  | none => exact .inl rfl
  | some g =>
    refine .inr fun e => ?_
    rcases off_apart h with h1 | ⟨g', t, cs, h1, hb, hne⟩
    · rw [hv] at h1; cases h1
    · rw [hv] at h1
      injection h1 with h1
      subst h1
      exact own_blk_ne k hb (Ne.symm hne) e.symm
/-- What is neither a list of edits nor of groups nor a history is kept. -/
def TK (w w' : World) : Prop := ∀ (g : Nat) (cs : Array Value) (t : TypeId) (fz : Nat × Nat), w.heap[g]? = some (.cells cs t fz) → t ≠ 34 → t ≠ 173 → t ≠ 153 → w'.heap[g]? = some (.cells cs t fz)
theorem TK.refl (w : World) : TK w w := fun _ _ _ _ h _ _ _ => h
theorem TK.trans {a b c : World} (h : TK a b) (k : TK b c) : TK a c := fun g cs t fz e h1 h2 h3 => k g cs t fz (h g cs t fz e h1 h2 h3) h1 h2 h3
theorem heap_lt {w : World} {g : Nat} {o : Obj} (h : w.heap[g]? = some o) : g < w.heap.size := (Array.getElem?_eq_some_iff.1 h).1
theorem TK.below {w w' : World} (hb : Below w.heap.size w w') : TK w w' := fun g cs t fz h _ _ _ => (hb.block g (heap_lt h)).trans h
theorem TK.grown {w w' : World} {row : Option Nat} (hg : w.grownBy w' row) (hr : ∀ g, row = some g → ∃ t cs, Blk w g t cs ∧ (t = 34 ∨ t = 173 ∨ t = 153)) : TK w w' := by
  intro g cs t fz h h1 h2 h3
  refine (hg.block g (heap_lt h) ?_).trans h
  intro e
  obtain ⟨t', cs', hb, ht⟩ := hr g e.symm
  unfold Blk at hb
  rw [h] at hb
  injection hb with hb
  injection hb with a1 a2 a3
  subst a2
  rcases ht with ht | ht | ht
  · exact h1 ht
  · exact h2 ht
  · exact h3 ht
theorem TK.hist {w w' : World} {R : Nat} {cs : Array Value} (h : Blk w R 153 cs) (hg : w.grownBy w' (some R)) : TK w w' :=
  TK.grown hg fun g e => by injection e with e; subst e; exact ⟨_, _, h, .inr (.inr rfl)⟩
theorem TK.own {w w' : World} {M n : Nat} {v : Value} {xs : List Value} (h : w.ownsRow M 34 3 v n xs) (hg : w.grownBy w' v.ownBlock) : TK w w' :=
  TK.grown hg fun g e => by
    rcases h.2 with ⟨rfl, rfl⟩ | ⟨g', cap, cur, rfl, hb, hh, _⟩
    · simp [Value.ownBlock] at e
    · simp only [Value.ownBlock] at e
      injection e with e
      subst e
      exact ⟨_, _, hh, .inl rfl⟩
theorem TK.off {w w' : World} {B n : Nat} {v : Value} {xs : List Value} (h : OffRow w B 173 2 v n xs) (hg : w.grownBy w' (offBlock v)) : TK w w' :=
  TK.grown hg fun g e => by
    rcases h.2 with ⟨_, A, rfl⟩ | ⟨g', o, cap, cur, rfl, h0, hb, hh, _⟩
    · cases A <;> simp [offBlock] at e
    · rw [offBlock_some _ _ _ h0] at e
      injection e with e
      subst e
      exact ⟨_, _, hh, .inr (.inl rfl)⟩
theorem TK.offset {w : World} {B n : Nat} {v : Value} {xs : List Value} (h : OffRow w B 173 2 v n xs) {g k : Nat} (hg : offBlock v = some g) (u : Value) : TK w (w.setCell ⟨g, k, none⟩ u) :=
  TK.off h (by rw [hg]; exact grown_set w ⟨g, k, none⟩ u)
section
variable {w w' w4 w5 : World} {B R M : Nat} {cs : Array Value} {v1 v2 : Value} {l1 l2 : List GE} {t : ByteArray} {vu vr : Value} {us rs : List GE} {f o : Bool}
theorem HQ.swap (h : HQ w B R M cs v1 v2 l1 l2) : HQ w B R M cs v2 v1 l2 l1 :=
  ⟨h.hist, h.rb, h.mb, h.ms, h.re, h.un, fun g h1 h2 => h.ne g h2 h1, fun x hx => h.fu x (by rcases List.mem_append.1 hx with hx | hx <;> simp [hx])⟩
theorem HMp.toQ (h : HMp w B R M t vu vr us rs f o) : HQ w B R w.heap.size #[.string t, vu, vr, .bool f] vu vr us rs :=
  ⟨h.hist, h.rb, Nat.le_trans h.mb h.ms, Nat.le_refl _, h.un, h.re, h.ne, h.all⟩
theorem HQ.toHM (h : HQ w B R M #[.string t, vu, vr, .bool f] vu vr us rs) : HMp w B R M t vu vr us rs f false :=
  ⟨h.hist, h.rb, h.mb, h.ms, h.un, h.re, h.ne, fun x hx => h.fu x (List.mem_append.2 (.inl (by simpa using hx))), fun x hx => h.fu x (List.mem_append.2 (.inr hx)), by simp⟩
theorem HQ.more (h : HQ w B R M cs v1 v2 l1 l2) {M' : Nat} (h1 : M ≤ M') (h2 : M' ≤ w.heap.size) : HQ w B R M' cs v1 v2 l1 l2 :=
  ⟨h.hist, h.rb, Nat.le_trans h.mb h1, h2, h.un, h.re, h.ne, fun x hx => ⟨(h.fu x hx).1.more h1, (h.fu x hx).2.more h1⟩⟩
theorem HQ.kept {row : Option Nat} (h : HQ w B R M cs v1 v2 l1 l2) (hg : w.grownBy w' row) (hR : some R ≠ row) (hu : offBlock v1 = none ∨ offBlock v1 ≠ row) (hr : offBlock v2 = none ∨ offBlock v2 ≠ row) (hE : Apart w row) : HQ w' B R M cs v1 v2 l1 l2 :=
  ⟨h.hist.grown hg hR, h.rb, h.mb, Nat.le_trans h.ms hg.size, h.un.kept hg hu, h.re.kept hg hr, h.ne, fun x hx => ⟨(h.fu x hx).1.apart hg hE, (h.fu x hx).2.apart hg hE⟩⟩
theorem HQ.below (h : HQ w B R M cs v1 v2 l1 l2) (hb : Below w.heap.size w w') : HQ w' B R M cs v1 v2 l1 l2 :=
  h.kept (grown_of_below hb none) (by simp) (by cases offBlock v1 <;> simp) (by cases offBlock v2 <;> simp) (.inl rfl)
/-- The history's own block is written. -/
theorem HQ.rehist (h : HQ w B R M cs v1 v2 l1 l2) (hg : w.grownBy w' (some R)) {cs' : Array Value} (hb : Blk w' R 153 cs') : HQ w' B R M cs' v1 v2 l1 l2 := by
  have hE : Apart w (some R) := .inr ⟨R, _, _, rfl, h.hist, by decide⟩
  exact ⟨hb, h.rb, h.mb, Nat.le_trans h.ms hg.size, h.un.kept hg (.inr (off_blk_ne h.un h.hist (by decide))), h.re.kept hg (.inr (off_blk_ne h.re h.hist (by decide))), h.ne, fun x hx => ⟨(h.fu x hx).1.apart hg hE, (h.fu x hx).2.apart hg hE⟩⟩
/-- The first list is another slice, of fewer groups. -/
theorem HQ.fewer (h : HQ w B R M cs v1 v2 l1 l2) {v : Value} {l : List GE} (hv : OffRow w B 173 2 v l.length (cellsOf gc l)) (hb : ∀ g, offBlock v = some g → offBlock v1 = some g) (hl : ∀ x ∈ l, x ∈ l1) : HQ w B R M cs v v2 l l2 :=
  ⟨h.hist, h.rb, h.mb, h.ms, hv, h.re, fun g e => h.ne g (hb g e), fun x hx => h.fu x (by rcases List.mem_append.1 hx with hx | hx; exact List.mem_append.2 (.inl (hl x hx)); exact List.mem_append.2 (.inr hx))⟩
/-- A group is pushed. -/
theorem HQ.push (h : HQ w B R M cs v1 v2 l1 l2) (hg : w.grownBy w4 (offBlock v1)) {v : Value} {x : GE} (hv : OffRow w4 B 173 2 v (l1.length + 1) (cellsOf gc l1 ++ [x.d, x.b])) (hat : offBlock v = offBlock v1 ∨ offBlock v = some w.heap.size)
    (hx : FR w M x.d x.g.done ∧ FR w M x.b x.g.back) : HQ w4 B R M cs v v2 (l1 ++ [x]) l2 := by
  have hE := off_apart h.un
  refine ⟨h.hist.grown hg (Ne.symm (off_blk_ne h.un h.hist (by decide))), h.rb, h.mb, Nat.le_trans h.ms hg.size, by rw [cellsOf_snoc, List.length_append]; exact hv, h.re.kept hg ?_, ?_, ?_⟩
  · cases h2 : offBlock v2 with
    | none => exact .inl rfl
    | some g => exact .inr fun e => h.ne g e.symm h2
  · intro g e1 e2
    rcases hat with h1 | h1
    · exact h.ne g (by rw [← h1]; exact e1) e2
    · have h3 := (h.re.lt g e2).2
      rw [h1] at e1
      injection e1 with e1
      omega
  · intro y hy
    have hy' : y = x ∨ y ∈ l1 ++ l2 := by
      simp at hy
      rcases hy with hy | hy | hy
      · exact .inr (by simp [hy])
      · exact .inl hy
      · exact .inr (by simp [hy])
    rcases hy' with rfl | hy'
    · exact ⟨hx.1.apart hg hE, hx.2.apart hg hE⟩
    · exact ⟨(h.fu y hy').1.apart hg hE, (h.fu y hy').2.apart hg hE⟩
/-- An empty group is open. -/
theorem HQ.toOpen {i : List GE} (h : HQ w B R M #[.string t, vu, vr, .bool true] vu vr (i ++ [⟨.slice none 0 0, .slice none 0 0, ⟨[], []⟩⟩]) rs) :
    HMp w B R w.heap.size t vu vr (i ++ [⟨.slice none 0 0, .slice none 0 0, ⟨[], []⟩⟩]) rs true true := by
  have h' := h.more h.ms (Nat.le_refl _)
  refine ⟨h.hist, h.rb, Nat.le_trans h.mb h.ms, Nat.le_refl _, h.un, h.re, h.ne, fun x hx => ?_, fun x hx => h'.fu x (List.mem_append.2 (.inr hx)), fun _ => ⟨i, _, rfl, World.ownsRow_nil _ _ _ _, World.ownsRow_nil _ _ _ _, by simp [Value.ownBlock]⟩⟩
  simp only [if_true, List.dropLast_concat] at hx
  exact h'.fu x (List.mem_append.2 (.inl (List.mem_append.2 (.inl hx))))
theorem HMp.wrote0 {i : List GE} {x : GE} {gb q cap n : Nat} (h : HMp w B R M t (.slice (some ⟨gb, q, none⟩) n cap) vr (i ++ [x]) rs f true) (hn : n = i.length + 1) (hg : w.grownBy w4 x.d.ownBlock) {v : Value} {es : List Ed} (hv : w4.ownsRow M 34 3 v es.length (edCells es))
    (hat : v.ownBlock = x.d.ownBlock ∨ ∀ k, v.ownBlock = some k → w.heap.size ≤ k) :
    HMp (w4.setCell ⟨gb, q + (i.length * 2+ 0), none⟩ v) B R M t (.slice (some ⟨gb, q, none⟩) n cap) vr (i ++ [⟨v, x.b, ⟨es, x.g.back⟩⟩]) rs f true := by
  obtain ⟨i', x', e, a2, a3, a4⟩ := h.op rfl
  have ei := List.append_inj' e (by simp)
  obtain rfl : i = i' := ei.1
  obtain rfl : x = x' := by simpa using ei.2
  clear ei e
  subst hn
  have hun := h.un
  simp only [List.length_append, List.length_cons, List.length_nil, Nat.zero_add] at hun
  obtain ⟨g, o', cap', hv', hBg, hgl, hnc, hcm, hob, _, _⟩ := hun.form (by omega)
  injection hv' with e1 e2 e3
  injection e1 with e1
  injection e1 with e1 e4
  subst e1 e3 e4
  have hOb : some gb ≠ x.d.ownBlock := by
    rcases own_off_ne hun a2 with h1 | h1
    · rw [hob] at h1; cases h1
    · rwa [hob] at h1
  have hun4 := hun.kept hg (.inr (by rw [hob]; exact hOb))
  obtain ⟨gb', t', cs', e5, hblk, hne⟩ : ∃ g t cs, offBlock (.slice (some ⟨gb, q, none⟩) (i.length + 1) cap) = some g ∧ Blk w4 g t cs ∧ t ≠ 34 := by
    rcases off_apart hun4 with h1 | ⟨g, t, cs, h1, h2, h3⟩
    · rw [hob] at h1; cases h1
    · exact ⟨g, t, cs, h1, h2, h3⟩
  rw [hob] at e5
  injection e5 with e5
  subst e5
  have hS := grown_set w4 ⟨gb, q + (i.length * 2+ 0), none⟩ v
  have hE : Apart w4 (some gb) := .inr ⟨gb, t', cs', rfl, hblk, hne⟩
  have hlt := hv.lt
  have hM : ∀ g, x.d.ownBlock = some g → M ≤ g := fun g e => (a2.lt g e).1
  have hfr : ∀ (u : Value) (l : List Ed), FR w M u l → FR (w4.setCell ⟨gb, q + (i.length * 2+ 0), none⟩ v) M u l := fun u l hf => (hf.above hg hM).apart hS hE
  have hR4 := h.hist.grown hg (Ne.symm (own_blk_ne a2 h.hist (by decide)))
  have hRgb : R ≠ gb := fun e => off_blk_ne hun h.hist (by decide) (by rw [hob, e])
  refine ⟨hR4.far (by exact hRgb) _, h.rb, h.mb, by simpa using Nat.le_trans h.ms hg.size, ?_, ?_, h.ne, ?_, fun y hy => ⟨hfr _ _ (h.fr y hy).1, hfr _ _ (h.fr y hy).2⟩, fun _ => ⟨i, _, rfl, ?_, ?_, ?_⟩⟩
  · have := hun4.set (j := i.length * 2+ 0) (by omega) v
    simp only [List.length_append, List.length_cons, List.length_nil, Nat.zero_add]
    rw [cellsOf_snoc] at this
    rw [cellsOf_snoc]
    rw [List.set_append_right _ _ (by rw [cellsOf_len gc_len]; omega), cellsOf_len gc_len] at this
    simpa [gc] using this
  · refine (h.re.kept hg ?_).far _ _ ?_
    · exact own_off_ne h.re a2
    · exact h.ne gb (by simpa using hob)
  · intro y hy
    simp only [if_true, List.dropLast_concat] at hy
    have := h.fu y (by simpa using hy)
    exact ⟨hfr _ _ this.1, hfr _ _ this.2⟩
  · exact own_apart hv hS hE
  · refine own_apart (a3.kept hg ?_) hS hE
    cases hb : x.b.ownBlock with
    | none => exact .inl rfl
    | some g => exact .inr fun e => a4 g e.symm hb
  · intro g e1 e2
    rcases hat with h1 | h1
    · exact a4 g (by rw [← h1]; exact e1) e2
    · have h3 := (a3.lt g e2).2
      have h5 := h1 g e1
      omega
theorem HMp.wrote1 {i : List GE} {x : GE} {gb q cap n : Nat} (h : HMp w B R M t (.slice (some ⟨gb, q, none⟩) n cap) vr (i ++ [x]) rs f true) (hn : n = i.length + 1) (hg : w.grownBy w4 x.b.ownBlock) {v : Value} {es : List Ed} (hv : w4.ownsRow M 34 3 v es.length (edCells es))
    (hat : v.ownBlock = x.b.ownBlock ∨ ∀ k, v.ownBlock = some k → w.heap.size ≤ k) :
    HMp (w4.setCell ⟨gb, q + (i.length * 2+ 1), none⟩ v) B R M t (.slice (some ⟨gb, q, none⟩) n cap) vr (i ++ [⟨x.d, v, ⟨x.g.done, es⟩⟩]) rs f true := by
  obtain ⟨i', x', e, a2, a3, a4⟩ := h.op rfl
  have ei := List.append_inj' e (by simp)
  obtain rfl : i = i' := ei.1
  obtain rfl : x = x' := by simpa using ei.2
  clear ei e
  subst hn
  have hun := h.un
  simp only [List.length_append, List.length_cons, List.length_nil, Nat.zero_add] at hun
  obtain ⟨g, o', cap', hv', hBg, hgl, hnc, hcm, hob, _, _⟩ := hun.form (by omega)
  injection hv' with e1 e2 e3
  injection e1 with e1
  injection e1 with e1 e4
  subst e1 e3 e4
  have hOb : some gb ≠ x.b.ownBlock := by
    rcases own_off_ne hun a3 with h1 | h1
    · rw [hob] at h1; cases h1
    · rwa [hob] at h1
  have hun4 := hun.kept hg (.inr (by rw [hob]; exact hOb))
  obtain ⟨gb', t', cs', e5, hblk, hne⟩ : ∃ g t cs, offBlock (.slice (some ⟨gb, q, none⟩) (i.length + 1) cap) = some g ∧ Blk w4 g t cs ∧ t ≠ 34 := by
    rcases off_apart hun4 with h1 | ⟨g, t, cs, h1, h2, h3⟩
    · rw [hob] at h1; cases h1
    · exact ⟨g, t, cs, h1, h2, h3⟩
  rw [hob] at e5
  injection e5 with e5
  subst e5
  have hS := grown_set w4 ⟨gb, q + (i.length * 2+ 1), none⟩ v
  have hE : Apart w4 (some gb) := .inr ⟨gb, t', cs', rfl, hblk, hne⟩
  have hlt := hv.lt
  have hM : ∀ g, x.b.ownBlock = some g → M ≤ g := fun g e => (a3.lt g e).1
  have hfr : ∀ (u : Value) (l : List Ed), FR w M u l → FR (w4.setCell ⟨gb, q + (i.length * 2+ 1), none⟩ v) M u l := fun u l hf => (hf.above hg hM).apart hS hE
  have hR4 := h.hist.grown hg (Ne.symm (own_blk_ne a3 h.hist (by decide)))
  have hRgb : R ≠ gb := fun e => off_blk_ne hun h.hist (by decide) (by rw [hob, e])
  refine ⟨hR4.far (by exact hRgb) _, h.rb, h.mb, by simpa using Nat.le_trans h.ms hg.size, ?_, ?_, h.ne, ?_, fun y hy => ⟨hfr _ _ (h.fr y hy).1, hfr _ _ (h.fr y hy).2⟩, fun _ => ⟨i, _, rfl, ?_, ?_, ?_⟩⟩
  · have := hun4.set (j := i.length * 2+ 1) (by omega) v
    simp only [List.length_append, List.length_cons, List.length_nil, Nat.zero_add]
    rw [cellsOf_snoc] at this
    rw [cellsOf_snoc]
    rw [List.set_append_right _ _ (by rw [cellsOf_len gc_len]; omega), cellsOf_len gc_len] at this
    simpa [gc, show i.length * 2 + 1 - i.length * 2 = 1 by omega] using this
  · refine (h.re.kept hg ?_).far _ _ ?_
    · exact own_off_ne h.re a3
    · exact h.ne gb (by simpa using hob)
  · intro y hy
    simp only [if_true, List.dropLast_concat] at hy
    have := h.fu y (by simpa using hy)
    exact ⟨hfr _ _ this.1, hfr _ _ this.2⟩
  · refine own_apart (a2.kept hg ?_) hS hE
    cases hb : x.d.ownBlock with
    | none => exact .inl rfl
    | some g => exact .inr fun e => a4 g hb e.symm
  · exact own_apart hv hS hE
  · intro g e2 e1
    rcases hat with h1 | h1
    · exact a4 g e2 (by rw [← h1]; exact e1)
    · have h3 := (a2.lt g e2).2
      have h5 := h1 g e1
      omega
end
end Go.Proofs.Ytegobmlbldabbaa
