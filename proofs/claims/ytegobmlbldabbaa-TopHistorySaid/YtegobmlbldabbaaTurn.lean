/-
  How a slice of Turns that came in is told to a walk. Plain lemmas over the form's own reading.
-/
import Derived.Test.YtegobmlbldabbaaChg
namespace Go.Proofs.Ytegobmlbldabbaa
open Go.ChangeShapes Go.WideShapes Go.ChangeAt Go.RowKit Go.Deep
set_option linter.unusedVariables false

structure Trn where
  k : Int
  chg : Chg
def Turn1 (w : World) (v0 v1 v2 v3 : Value) (x : Trn) : Prop :=
  v0 = .int .i64 x.k ∧ Chg1 w v1 v2 v3 x.chg ∧ (-9223372036854775808 ≤ x.k ∧ x.k ≤ 9223372036854775807)
theorem Turn1.later {w w' : World} {v0 v1 v2 v3 : Value} {x : Trn} (h : Turn1 w v0 v1 v2 v3 x) (hb : Below w.heap.size w w') : Turn1 w' v0 v1 v2 v3 x := ⟨h.1, h.2.1.later hb, h.2.2⟩
def Turns (w : World) (v : Value) (cs : List Trn) : Prop :=
  ∃ A cap, v = .slice A cs.length cap ∧ cs.length ≤ cap ∧ cap ≤ maxLen ∧ (0 < cs.length → ∃ b off, A = some ⟨b, off, none⟩ ∧ b < w.heap.size ∧ ∀ i x, cs[i]? = some x →
    ∃ v0 v1 v2 v3, w.cell? ⟨b, off + i * 4, none⟩ = some v0 ∧ w.cell? ⟨b, off + i * 4 + 1, none⟩ = some v1 ∧ w.cell? ⟨b, off + i * 4 + 2, none⟩ = some v2 ∧ w.cell? ⟨b, off + i * 4 + 3, none⟩ = some v3 ∧ Turn1 w v0 v1 v2 v3 x)
theorem Turns.later {w w' : World} {v : Value} {cs : List Trn} (h : Turns w v cs) (hb : Below w.heap.size w w') : Turns w' v cs := by
  obtain ⟨A, cap, hv, hl, hc, hr⟩ := h
  refine ⟨A, cap, hv, hl, hc, fun hp => ?_⟩
  obtain ⟨b, off, ha, hb', hx⟩ := hr hp
  refine ⟨b, off, ha, Nat.lt_of_lt_of_le hb' hb.size, fun i x hi => ?_⟩
  obtain ⟨v0, v1, v2, v3, h0, h1, h2, h3, h4⟩ := hx i x hi
  exact ⟨v0, v1, v2, v3, (hb.cell (p := ⟨b, _, none⟩) hb').trans h0, (hb.cell (p := ⟨b, _, none⟩) hb').trans h1, (hb.cell (p := ⟨b, _, none⟩) hb').trans h2, (hb.cell (p := ⟨b, _, none⟩) hb').trans h3, h4.later hb⟩
theorem list4 {l : List Value} (h : l.length = 4) : ∃ a b c d, l = [a, b, c, d] := by
  match l, h with
  | [a, b, c, d], _ => exact ⟨a, b, c, d, rfl⟩
set_option maxRecDepth 100000 in
theorem turn1_of {H : Type} {enc : TypeId × Value → H} {W : World} {held : Bool} {n : Nat} {a0 a1 a2 a3 : Value} {y : DataW H × List MemPlace}
    (h : DataW.trod enc Try.prog W 0 (fun _ => true) held n 129 [a0, a1, a2, a3] = some y) (hlt : ∀ p ∈ y.2, p.block < W.heap.size) : ∃ x, Turn1 W a0 a1 a2 a3 x := by
  obtain ⟨ys, n', _, hy, _, hyl, hf⟩ := DataW.trod_struct Try.underlying129 h
  have k0 := hf 0 _ rfl
  have k1 := hf 1 _ rfl
  have c1 : Try.prog.cellsOf 3 = 1 := by kernel_rfl
  have c3 : Try.prog.cellsOf 43 = 3 := by kernel_rfl
  change DataW.trod enc Try.prog W 0 (fun _ => true) held n' 3 ((([a0, a1, a2, a3] : List Value).drop 0).take (Try.prog.cellsOf 3)) = ys[0]? at k0
  change DataW.trod enc Try.prog W 0 (fun _ => true) held n' 43 ((([a0, a1, a2, a3] : List Value).drop 1).take (Try.prog.cellsOf 43)) = ys[1]? at k1
  rw [c1] at k0
  rw [c3] at k1
  have hyl2 : ys.length = 2 := hyl
  obtain ⟨y0, y1, rfl⟩ : ∃ y0 y1, ys = [y0, y1] := by
    match ys, hyl2 with
    | [y0, y1], _ => exact ⟨y0, y1, rfl⟩
  have k1' : DataW.trod enc Try.prog W 0 (fun _ => true) held n' 43 [a1, a2, a3] = some y1 := k1
  have k0' : DataW.trod enc Try.prog W 0 (fun _ => true) held n' 3 [a0] = some y0 := k0
  obtain ⟨zs, n2, _, hz, _, hzl, hg⟩ := DataW.trod_struct Try.underlying43 k1'
  have c1' : Try.prog.cellsOf 22 = 1 := by kernel_rfl
  have g0 := hg 0 _ rfl
  have g1 := hg 1 _ rfl
  have g2 := hg 2 _ rfl
  change DataW.trod enc Try.prog W 0 (fun _ => true) held n2 3 ((([a1, a2, a3] : List Value).drop 0).take (Try.prog.cellsOf 3)) = zs[0]? at g0
  change DataW.trod enc Try.prog W 0 (fun _ => true) held n2 3 ((([a1, a2, a3] : List Value).drop 1).take (Try.prog.cellsOf 3)) = zs[1]? at g1
  change DataW.trod enc Try.prog W 0 (fun _ => true) held n2 22 ((([a1, a2, a3] : List Value).drop 2).take (Try.prog.cellsOf 22)) = zs[2]? at g2
  rw [c1] at g0 g1
  rw [c1'] at g2
  have hzl2 : zs.length = 3 := hzl
  obtain ⟨z0, z1, z2, rfl⟩ : ∃ z0 z1 z2, zs = [z0, z1, z2] := by
    match zs, hzl2 with
    | [z0, z1, z2], _ => exact ⟨z0, z1, z2, rfl⟩
  obtain ⟨a, e0, _, wa⟩ := DataW.trod_int Try.underlying3 k0'
  simp at e0
  have g2' : DataW.trod enc Try.prog W 0 (fun _ => true) held n2 22 [a3] = some z2 := g2
  have g1' : DataW.trod enc Try.prog W 0 (fun _ => true) held n2 3 [a2] = some z1 := g1
  have g0' : DataW.trod enc Try.prog W 0 (fun _ => true) held n2 3 [a1] = some z0 := g0
  obtain ⟨x, hx⟩ := chg1_of g0' g1' g2' (fun q hq => hlt q (by rw [hy, hz]; simp [hq]))
  exact ⟨⟨a, x⟩, e0, hx, bounds_i64 wa⟩
set_option maxRecDepth 100000 in
theorem open_turns {H : Type} {enc : TypeId × Value → H} {W : World} {base : Nat} {v : Value} {d : DataW H} {p : List MemPlace}
    (hv : Value.okWide Try.prog W .any base 23 v) (h : DataW.Trod enc Try.prog W 0 (fun _ => true) true 23 v d p) (hlt : ∀ x ∈ p, x.block < W.heap.size) :
    ∃ cs, Turns W v cs := by
  obtain ⟨a, len, cap, rfl⟩ := okWide_slice Try.underlying23 hv
  obtain ⟨fuel, hf⟩ := h
  rcases open_slice Try.underlying23 hf with ⟨hcs, _⟩ | ⟨ad, len', cap', m, n, D, Pl, hcs, _, hl, hm, hmm, hx, hi⟩
  · simp [Value.cells] at hcs
    obtain ⟨rfl, rfl, rfl⟩ := hcs
    exact ⟨[], none, 0, rfl, Nat.le_refl _, by decide, by simp⟩
  · simp [Value.cells] at hcs
    obtain ⟨rfl, rfl, rfl⟩ := hcs
    simp only [if_true] at hmm
    subst hmm
    simp only [Prod.mk.injEq] at hx
    obtain ⟨rfl, rfl⟩ := hx
    have c4 : Try.prog.cellsOf 129 = 4 := by kernel_rfl
    have hch : ∀ i, i < len → ∃ x : Trn, ∃ v0 v1 v2 v3, W.cell? (ad.add (i * 4 + 0)) = some v0 ∧ W.cell? (ad.add (i * 4 + 1)) = some v1 ∧ W.cell? (ad.add (i * 4 + 2)) = some v2 ∧ W.cell? (ad.add (i * 4 + 3)) = some v3 ∧ Turn1 W v0 v1 v2 v3 x := by
      intro i hil
      obtain ⟨cs', hc, ht'⟩ := hi i (by omega)
      rw [c4] at hc
      obtain ⟨_, hcl, hat⟩ := World.cells?_some hc
      obtain ⟨a0, a1, a2, a3, rfl⟩ := list4 hcl
      obtain ⟨x, hx⟩ := turn1_of ht' (fun q hq => hlt q (by
        rw [List.mem_append]; right
        rw [List.mem_flatMap]; exact ⟨i, by simp; omega, hq⟩))
      exact ⟨x, a0, a1, a2, a3, by rw [← Go.Deep.add_add]; exact hat 0 (by omega), by rw [← Go.Deep.add_add]; exact hat 1 (by omega), by rw [← Go.Deep.add_add]; exact hat 2 (by omega), by rw [← Go.Deep.add_add]; exact hat 3 (by omega), hx⟩
    obtain ⟨cs, hlen, hcs⟩ := list_choose len hch
    subst hlen
    refine ⟨cs, some ad, _, rfl, hl, hm, fun hp => ?_⟩
    have hb := hlt (.cell ad.block (ad.off + 0)) (by
      rw [List.mem_append]; left
      rw [c4]
      simp only [MemPlace.row, List.mem_map, List.mem_range]; exact ⟨0, by simp; omega, rfl⟩)
    obtain ⟨b, off, spot⟩ := ad
    have hspot : spot = none := by
      obtain ⟨v0, _, _, _, h0, _⟩ := hcs 0 cs[0] (List.getElem?_eq_getElem hp)
      simpa [Addr.add] using World.cell?_spot h0
    subst hspot
    refine ⟨b, off, rfl, hb, fun i x hix => ?_⟩
    obtain ⟨v0, v1, v2, v3, h0, h1, h2, h3, h4⟩ := hcs i x hix
    rw [add_plain] at h0 h1 h2 h3
    exact ⟨v0, v1, v2, v3, h0, by rw [Nat.add_assoc]; exact h1, by rw [Nat.add_assoc]; exact h2, by rw [Nat.add_assoc]; exact h3, h4⟩
end Go.Proofs.Ytegobmlbldabbaa
