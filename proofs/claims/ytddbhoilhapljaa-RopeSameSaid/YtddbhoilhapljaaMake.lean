/-
  How a slice of Makes that came in is told to a walk.
-/
import Derived.Test.YtddbhoilhapljaaChg
namespace Go.Proofs.Ytddbhoilhapljaa
open Go.ChangeShapes Go.WideShapes Go.ChangeAt Go.RowKit Go.Deep
set_option linter.unusedVariables false

structure Mke where
  k : Int
  t : List Int
  a : Int
  b : Int
  at_ : Int
def Ib (x : Int) : Prop := -9223372036854775808 ≤ x ∧ x ≤ 9223372036854775807
def Mke1 (w : World) (v0 v1 v2 v3 v4 : Value) (x : Mke) : Prop :=
  v0 = .int .i64 x.k ∧ Row .i64 w v1 x.t ∧ v2 = .int .i64 x.a ∧ v3 = .int .i64 x.b ∧ v4 = .int .i64 x.at_ ∧ Ib x.k ∧ Ib x.a ∧ Ib x.b ∧ Ib x.at_
theorem Mke1.later {w w' : World} {v0 v1 v2 v3 v4 : Value} {x : Mke} (h : Mke1 w v0 v1 v2 v3 v4 x) (hb : Below w.heap.size w w') : Mke1 w' v0 v1 v2 v3 v4 x := ⟨h.1, h.2.1.later hb, h.2.2⟩
def Mkes (w : World) (v : Value) (ms : List Mke) : Prop :=
  ∃ A cap, v = .slice A ms.length cap ∧ ms.length ≤ cap ∧ cap ≤ maxLen ∧ (0 < ms.length → ∃ b off, A = some ⟨b, off, none⟩ ∧ b < w.heap.size ∧ ∀ i x, ms[i]? = some x →
    ∃ v0 v1 v2 v3 v4, w.cell? ⟨b, off + i * 5, none⟩ = some v0 ∧ w.cell? ⟨b, off + i * 5 + 1, none⟩ = some v1 ∧ w.cell? ⟨b, off + i * 5 + 2, none⟩ = some v2 ∧ w.cell? ⟨b, off + i * 5 + 3, none⟩ = some v3 ∧ w.cell? ⟨b, off + i * 5 + 4, none⟩ = some v4 ∧ Mke1 w v0 v1 v2 v3 v4 x)
theorem Mkes.later {w w' : World} {v : Value} {ms : List Mke} (h : Mkes w v ms) (hb : Below w.heap.size w w') : Mkes w' v ms := by
  obtain ⟨A, cap, hv, hl, hc, hr⟩ := h
  refine ⟨A, cap, hv, hl, hc, fun hp => ?_⟩
  obtain ⟨b, off, ha, hb', hx⟩ := hr hp
  refine ⟨b, off, ha, Nat.lt_of_lt_of_le hb' hb.size, fun i x hi => ?_⟩
  obtain ⟨v0, v1, v2, v3, v4, h0, h1, h2, h3, h4, h5⟩ := hx i x hi
  exact ⟨v0, v1, v2, v3, v4, (hb.cell hb').trans h0, (hb.cell hb').trans h1, (hb.cell hb').trans h2, (hb.cell hb').trans h3, (hb.cell hb').trans h4, h5.later hb⟩
set_option maxRecDepth 100000 in
theorem mke1_of {H : Type} {enc : TypeId × Value → H} {W : World} {held : Bool} {n0 n1 n2 n3 n4 : Nat} {v0 v1 v2 v3 v4 : Value} {y0 y1 y2 y3 y4 : DataW H × List MemPlace}
    (h0 : DataW.trod enc Try.prog W 0 (fun _ => true) held n0 3 [v0] = some y0) (h1 : DataW.trod enc Try.prog W 0 (fun _ => true) held n1 22 [v1] = some y1) (h2 : DataW.trod enc Try.prog W 0 (fun _ => true) held n2 3 [v2] = some y2)
    (h3 : DataW.trod enc Try.prog W 0 (fun _ => true) held n3 3 [v3] = some y3) (h4 : DataW.trod enc Try.prog W 0 (fun _ => true) held n4 3 [v4] = some y4)
    (hlt : ∀ p ∈ y1.2, p.block < W.heap.size) : ∃ x, Mke1 W v0 v1 v2 v3 v4 x := by
  obtain ⟨a, e0, _, wa⟩ := DataW.trod_int Try.underlying3 h0
  obtain ⟨b, e2, _, wb⟩ := DataW.trod_int Try.underlying3 h2
  obtain ⟨c, e3, _, wc⟩ := DataW.trod_int Try.underlying3 h3
  obtain ⟨d, e4, _, wd⟩ := DataW.trod_int Try.underlying3 h4
  simp at e0 e2 e3 e4
  obtain ⟨xs, hx⟩ := row_of_trod (k := .i64) Try.underlying22 Try.underlying3 (by kernel_rfl) h1 hlt
  exact ⟨⟨a, xs, b, c, d⟩, e0, hx, e2, e3, e4, bounds_i64 wa, bounds_i64 wb, bounds_i64 wc, bounds_i64 wd⟩
set_option maxRecDepth 100000 in
theorem open_makes {H : Type} {enc : TypeId × Value → H} {W : World} {base : Nat} {v : Value} {d : DataW H} {p : List MemPlace}
    (hv : Value.okWide Try.prog W .any base 59 v) (h : DataW.Trod enc Try.prog W 0 (fun _ => true) true 59 v d p) (hlt : ∀ x ∈ p, x.block < W.heap.size) :
    ∃ cs, Mkes W v cs := by
  obtain ⟨a, len, cap, rfl⟩ := okWide_slice Try.underlying59 hv
  obtain ⟨fuel, hf⟩ := h
  rcases open_slice_fields Try.underlying59 Try.underlying106 (by kernel_rfl) (by kernel_rfl) hf with ⟨hcs, _⟩ | ⟨ad, len', cap', m, D, Pl, hcs, _, hl, hm, hmm, hx, hi⟩
  · simp [Value.cells] at hcs
    obtain ⟨rfl, rfl, rfl⟩ := hcs
    exact ⟨[], none, 0, rfl, Nat.le_refl _, by decide, by simp⟩
  · simp [Value.cells] at hcs
    obtain ⟨rfl, rfl, rfl⟩ := hcs
    simp only [if_true] at hmm
    subst hmm
    simp only [Prod.mk.injEq] at hx
    obtain ⟨rfl, rfl⟩ := hx
    have hch : ∀ i, i < len → ∃ x : Mke, ∃ v0 v1 v2 v3 v4, W.cell? (ad.add (i * 5)) = some v0 ∧ W.cell? (ad.add (i * 5 + 1)) = some v1 ∧ W.cell? (ad.add (i * 5 + 2)) = some v2 ∧ W.cell? (ad.add (i * 5 + 3)) = some v3 ∧ W.cell? (ad.add (i * 5 + 4)) = some v4 ∧ Mke1 W v0 v1 v2 v3 v4 x := by
      intro i hil
      obtain ⟨ys, n, _, hpl, _, hfi⟩ := hi i (by omega)
      obtain ⟨v0, y0, c0, e0, t0⟩ := hfi 0 _ rfl
      obtain ⟨v1, y1, c1, e1, t1⟩ := hfi 1 _ rfl
      obtain ⟨v2, y2, c2, e2, t2⟩ := hfi 2 _ rfl
      obtain ⟨v3, y3, c3, e3, t3⟩ := hfi 3 _ rfl
      obtain ⟨v4, y4, c4, e4, t4⟩ := hfi 4 _ rfl
      obtain ⟨x, hx⟩ := mke1_of t0 t1 t2 t3 t4 (fun q hq => hlt q (by
        rw [List.mem_append]; right
        rw [List.mem_flatMap]; refine ⟨i, by simp; omega, ?_⟩
        rw [hpl, List.mem_flatMap]; exact ⟨y1, List.mem_of_getElem? e1, hq⟩))
      exact ⟨x, v0, v1, v2, v3, v4, c0, c1, c2, c3, c4, hx⟩
    obtain ⟨cs, hlen, hcs⟩ := list_choose len hch
    subst hlen
    refine ⟨cs, some ad, _, rfl, hl, hm, fun hp => ?_⟩
    obtain ⟨b, off, spot⟩ := ad
    have hspot : spot = none := by
      obtain ⟨v0, _, _, _, _, h0, _⟩ := hcs 0 cs[0] (List.getElem?_eq_getElem hp)
      simpa [Addr.add] using World.cell?_spot h0
    subst hspot
    refine ⟨b, off, rfl, ?_, fun i x hix => ?_⟩
    · exact hlt (.cell b (off + 0)) (by
        rw [List.mem_append]; left
        simp only [MemPlace.row, List.mem_map, List.mem_range]; exact ⟨0, by simp; omega, rfl⟩)
    · obtain ⟨v0, v1, v2, v3, v4, h0, h1, h2, h3, h4, h5⟩ := hcs i x hix
      rw [add_plain] at h0 h1 h2 h3 h4
      exact ⟨v0, v1, v2, v3, v4, h0, by rw [Nat.add_assoc]; exact h1, by rw [Nat.add_assoc]; exact h2, by rw [Nat.add_assoc]; exact h3, by rw [Nat.add_assoc]; exact h4, h5⟩
end Go.Proofs.Ytddbhoilhapljaa
