/-
  How a history lies in memory: its block, the two lists of groups, and each group's lists of edits; plain lemmas on what keeps it. No function of the program is walked here.
-/
import Derived.Test.YtegobmlbldabbaaHistP
import Derived.Test.YtegobmlbldabbaaOff
namespace Go.Proofs.Ytegobmlbldabbaa
open Go.RowKit
set_option linter.unusedVariables false

structure GE where
  d : Value
  b : Value
  g : Grp
def gc (x : GE) : List Value := [x.d, x.b]
theorem gc_len (x : GE) : (gc x).length = 2 := rfl
theorem group_info : (Try.prog.info? 173).map (fun i => (i.zero, i.size, i.bytes)) = some (some (.agg #[.slice none 0 0, .slice none 0 0]), 2, 48) := by kernel_rfl
/-- A list of edits of the call's own, in a block below M. -/
def FR (w : World) (M : Nat) (v : Value) (es : List Ed) : Prop :=
  w.ownsRow 0 34 3 v es.length (edCells es) ∧ ∀ g, v.ownBlock = some g → g < M
def Apart (w : World) (row : Option Nat) : Prop := row = none ∨ ∃ g t cs, row = some g ∧ Blk w g t cs ∧ t ≠ 34
theorem own_apart {w w' : World} {base n : Nat} {v : Value} {xs : List Value} {row : Option Nat} (h : w.ownsRow base 34 3 v n xs) (hg : w.grownBy w' row) (hr : Apart w row) : w'.ownsRow base 34 3 v n xs := by
  refine h.kept hg ?_
  rcases hr with rfl | ⟨g, t, cs, rfl, hb, hne⟩
  · rcases v.ownBlock with _ | g <;> simp
  · exact .inr (own_blk_ne h hb (Ne.symm hne))
theorem FR.apart {w w' : World} {M : Nat} {v : Value} {es : List Ed} {row : Option Nat} (h : FR w M v es) (hg : w.grownBy w' row) (hr : Apart w row) : FR w' M v es := ⟨own_apart h.1 hg hr, h.2⟩
theorem FR.above {w w' : World} {M : Nat} {v : Value} {es : List Ed} {row : Option Nat} (h : FR w M v es) (hg : w.grownBy w' row) (hr : ∀ g, row = some g → M ≤ g) : FR w' M v es := by
  refine ⟨h.1.kept hg ?_, h.2⟩
  rcases hv : v.ownBlock with _ | g
  · exact .inl rfl
  · refine .inr fun e => ?_
    have h1 := h.2 g hv
    have h2 := hr g e.symm
    omega
theorem FR.more {w : World} {M M' : Nat} {v : Value} {es : List Ed} (h : FR w M v es) (hm : M ≤ M') : FR w M' v es := ⟨h.1, fun g hg => Nat.lt_of_lt_of_le (h.2 g hg) hm⟩
theorem FR.of_own {w : World} {base : Nat} {v : Value} {es : List Ed} (h : w.ownsRow base 34 3 v es.length (edCells es)) : FR w w.heap.size v es :=
  ⟨own_mono h (Nat.zero_le _), fun g hg => (h.lt g hg).2⟩
structure HMp (w : World) (B R M : Nat) (t : ByteArray) (vu vr : Value) (us rs : List GE) (f o : Bool) : Prop where
  hist : Blk w R 153 #[.string t, vu, vr, .bool f]
  rb : B ≤ R
  mb : B ≤ M
  ms : M ≤ w.heap.size
  un : OffRow w B 173 2 vu us.length (cellsOf gc us)
  re : OffRow w B 173 2 vr rs.length (cellsOf gc rs)
  ne : ∀ g, offBlock vu = some g → offBlock vr ≠ some g
  fu : ∀ x ∈ (if o then us.dropLast else us), FR w M x.d x.g.done ∧ FR w M x.b x.g.back
  fr : ∀ x ∈ rs, FR w M x.d x.g.done ∧ FR w M x.b x.g.back
  op : o = true → ∃ i x, us = i ++ [x] ∧ w.ownsRow M 34 3 x.d x.g.done.length (edCells x.g.done) ∧ w.ownsRow M 34 3 x.b x.g.back.length (edCells x.g.back) ∧ ∀ g, x.d.ownBlock = some g → x.b.ownBlock ≠ some g
def HM (w : World) (B R : Nat) (h : Hs) : Prop := ∃ M vu vr us rs, HMp w B R M h.text vu vr us rs h.opn h.opn ∧ us.map GE.g = h.undo ∧ rs.map GE.g = h.redo
section
variable {w w' : World} {B R M : Nat} {t : ByteArray} {vu vr : Value} {us rs : List GE} {f o : Bool}
theorem HMp.kept {row : Option Nat} (h : HMp w B R M t vu vr us rs f o) (hg : w.grownBy w' row) (hR : some R ≠ row) (hu : offBlock vu = none ∨ offBlock vu ≠ row) (hr : offBlock vr = none ∨ offBlock vr ≠ row) (hE : Apart w row) : HMp w' B R M t vu vr us rs f o :=
  ⟨h.hist.grown hg hR, h.rb, h.mb, Nat.le_trans h.ms hg.size, h.un.kept hg hu, h.re.kept hg hr, h.ne, fun x hx => ⟨(h.fu x hx).1.apart hg hE, (h.fu x hx).2.apart hg hE⟩, fun x hx => ⟨(h.fr x hx).1.apart hg hE, (h.fr x hx).2.apart hg hE⟩,
   fun ho => by
    obtain ⟨i, x, h1, h2, h3, h4⟩ := h.op ho
    exact ⟨i, x, h1, own_apart h2 hg hE, own_apart h3 hg hE, h4⟩⟩
theorem HMp.below (h : HMp w B R M t vu vr us rs f o) (hb : Below w.heap.size w w') : HMp w' B R M t vu vr us rs f o :=
  h.kept (grown_of_below hb none) (by simp) (by cases offBlock vu <;> simp) (by cases offBlock vr <;> simp) (.inl rfl)
theorem HM.below {h : Hs} (hm : HM w B R h) (hb : Below w.heap.size w w') : HM w' B R h := by
  obtain ⟨M, vu, vr, us, rs, h1, h2, h3⟩ := hm
  exact ⟨M, vu, vr, us, rs, h1.below hb, h2, h3⟩
/-- The history's own block is written. -/
theorem HMp.rehist (h : HMp w B R M t vu vr us rs f o) (hg : w.grownBy w' (some R)) {t' : ByteArray} {f' o' : Bool} {vu' vr' : Value} {us' rs' : List GE} (hb : Blk w' R 153 #[.string t', vu', vr', .bool f'])
    (hu : OffRow w' B 173 2 vu us.length (cellsOf gc us) → OffRow w' B 173 2 vr rs.length (cellsOf gc rs) → OffRow w' B 173 2 vu' us'.length (cellsOf gc us') ∧ OffRow w' B 173 2 vr' rs'.length (cellsOf gc rs'))
    (hn : ∀ g, offBlock vu' = some g → offBlock vr' ≠ some g) (hs : ∀ x ∈ us' ++ rs', x ∈ us ++ rs) (hfu : ∀ x ∈ (if o' then us'.dropLast else us') ++ rs', x ∈ (if o then us.dropLast else us) ++ rs) (ho : o' = true → o = true ∧ us' = us) : HMp w' B R M t' vu' vr' us' rs' f' o' := by
  have hE : Apart w (some R) := .inr ⟨R, _, _, rfl, h.hist, by decide⟩
  have hf : ∀ x ∈ (if o then us.dropLast else us) ++ rs, FR w' M x.d x.g.done ∧ FR w' M x.b x.g.back := by
    intro x hx
    rcases List.mem_append.1 hx with hx | hx
    · exact ⟨(h.fu x hx).1.apart hg hE, (h.fu x hx).2.apart hg hE⟩
    · exact ⟨(h.fr x hx).1.apart hg hE, (h.fr x hx).2.apart hg hE⟩
  obtain ⟨h1, h2⟩ := hu (h.un.kept hg (.inr (off_blk_ne h.un h.hist (by decide)))) (h.re.kept hg (.inr (off_blk_ne h.re h.hist (by decide))))
  refine ⟨hb, h.rb, h.mb, Nat.le_trans h.ms hg.size, h1, h2, hn, fun x hx => hf x (hfu x (List.mem_append.2 (.inl hx))), fun x hx => hf x (hfu x (List.mem_append.2 (.inr hx))), fun hq => ?_⟩
  obtain ⟨h3, rfl⟩ := ho hq
  obtain ⟨i, x, a1, a2, a3, a4⟩ := h.op h3
  exact ⟨i, x, a1, own_apart a2 hg hE, own_apart a3 hg hE, a4⟩
/-- No group is open any more. -/
theorem HMp.all (h : HMp w B R M t vu vr us rs f o) : ∀ x ∈ us ++ rs, FR w w.heap.size x.d x.g.done ∧ FR w w.heap.size x.b x.g.back := by
  intro x hx
  rcases List.mem_append.1 hx with hx | hx
  · cases o with
    | false => have := h.fu x (by simpa using hx); exact ⟨this.1.more h.ms, this.2.more h.ms⟩
    | true =>
      obtain ⟨i, y, rfl, a2, a3, a4⟩ := h.op rfl
      rcases List.mem_append.1 hx with hx | hx
      · have := h.fu x (by simpa using hx); exact ⟨this.1.more h.ms, this.2.more h.ms⟩
      · simp at hx
        subst hx
        exact ⟨FR.of_own a2, FR.of_own a3⟩
  · have := h.fr x hx; exact ⟨this.1.more h.ms, this.2.more h.ms⟩
theorem HMp.shut (h : HMp w B R M t vu vr us rs f o) : HMp w B R w.heap.size t vu vr us rs f false :=
  ⟨h.hist, h.rb, Nat.le_trans h.mb h.ms, Nat.le_refl _, h.un, h.re, h.ne, fun x hx => h.all x (List.mem_append.2 (.inl (by simpa using hx))), fun x hx => h.all x (List.mem_append.2 (.inr hx)), by simp⟩
end
theorem HM.new (w : World) (B : Nat) (s : ByteArray) (hB : B ≤ w.heap.size) : HM (w.alloc (.cells #[.string s, .slice none 0 0, .slice none 0 0, .bool false] 153)) B w.heap.size ⟨s, [], [], false⟩ :=
  ⟨w.heap.size, _, _, [], [], ⟨Blk.new w _ _, hB, hB, by simp, OffRow.nil_ _ _ _ _, OffRow.nil_ _ _ _ _, by simp [offBlock], by simp, by simp, by simp⟩, rfl, rfl⟩
end Go.Proofs.Ytegobmlbldabbaa
