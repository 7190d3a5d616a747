/-
  How a Change, and a slice of Changes, that came in are told to a walk. Plain lemmas over the form's own reading.
-/
import Derived.Test.YtpgjjnbepkofdaaOpen
import Derived.Deep.Slices
import Derived.Deep.Fields
import Derived.ChangeSame
import Derived.Lib.SmallJoins
namespace Go.Proofs.Ytpgjjnbepkofdaa
open Go.ChangeShapes Go.WideShapes Go.ChangeAt Go.RowKit Go.Deep
set_option linter.unusedVariables false

section
variable {H : Type} {enc : TypeId × Value → H} {P : Program} {w : World} {base : Nat} {spare : Nat → Bool} {held : Bool}
theorem open_slice_fields {t e : TypeId} {fs : Array Field} {fuel : Nat} {cs : List Value} {x : DataW H × List MemPlace} (ht : P.underlying t = some (.slice e)) (he : P.underlying e = some (.struct fs))
    (hone : oneCellFields P fs = true) (hC : P.cellsOf e = fs.size) (h : DataW.trod enc P w base spare held fuel t cs = some x) :
    (cs = [.slice none 0 0] ∧ x = (.nil, [])) ∨
    ∃ (a : Addr) (len cap m : Nat) (D : Nat → DataW H) (Pl : Nat → List MemPlace), cs = [.slice (some a) len cap] ∧ base ≤ a.block ∧ len ≤ cap ∧ cap ≤ maxLen ∧ m = (if spare a.block then cap else len) ∧
      x = (.slice ((List.range len).map D) ((List.range (m - len)).map fun j => D (len + j)), MemPlace.row a (m * fs.size) ++ (List.range m).flatMap Pl) ∧
      ∀ i, i < m → ∃ (ys : List (DataW H × List MemPlace)) (n : Nat), D i = .agg (ys.map (·.1)) ∧ Pl i = ys.flatMap (·.2) ∧ ys.length = fs.size ∧
        ∀ (j : Nat) (f : Field), fs[j]? = some f → ∃ (v : Value) (y : DataW H × List MemPlace), w.cell? (a.add (i * fs.size + j)) = some v ∧ ys[j]? = some y ∧ DataW.trod enc P w base spare held n f.type [v] = some y := by
  rcases open_slice ht h with h0 | ⟨a, len, cap, m, n, D, Pl, hcs, hb, hl, hm, hmm, hx, hi⟩
  · exact .inl h0
  · refine .inr ⟨a, len, cap, m, D, Pl, hcs, hb, hl, hm, hmm, by rw [hC] at hx; exact hx, fun i him => ?_⟩
    obtain ⟨cs', hc, ht'⟩ := hi i him
    rw [hC] at hc
    obtain ⟨ys, n', hn', hy, hlen, hyl, hf⟩ := DataW.trod_struct he ht'
    obtain ⟨_, hcl, hat⟩ := World.cells?_some hc
    simp only [Prod.mk.injEq] at hy
    refine ⟨ys, n', hy.1, hy.2, hyl, fun j f hj => ?_⟩
    obtain ⟨ho, hk⟩ := hone_of hone j f hj
    have hjl : j < fs.size := (Array.getElem?_eq_some_iff.1 hj).1
    have hcell := hat j hjl
    have hv : cs'[j]? = some (cs'[j]'(by omega)) := List.getElem?_eq_getElem (by omega)
    have h1 := hf j f hj
    rw [ho, hk] at h1
    have hone' : (cs'.drop j).take 1 = [cs'[j]'(by omega)] := by
      rw [List.drop_eq_getElem_cons (by omega)]
      rfl
    rw [hone'] at h1
    have hys : ys[j]? = some (ys[j]'(by omega)) := List.getElem?_eq_getElem (by omega)
    refine ⟨_, _, ?_, hys, h1.trans hys⟩
    rw [← Go.Deep.add_add, hcell, hv]
end

theorem list_choose {α : Type} {P : Nat → α → Prop} (n : Nat) (h : ∀ i, i < n → ∃ x, P i x) : ∃ l : List α, l.length = n ∧ ∀ i x, l[i]? = some x → P i x := by
  induction n with
  | zero => exact ⟨[], rfl, fun i x hx => by simp at hx⟩
  | succ n ih =>
    obtain ⟨l, hl, hp⟩ := ih (fun i hi => h i (by omega))
    obtain ⟨x, hx⟩ := h n (by omega)
    refine ⟨l ++ [x], by simp [hl], fun i y hy => ?_⟩
    by_cases hi : i < n
    · rw [List.getElem?_append_left (by omega)] at hy; exact hp i y hy
    · have hi2 : i < (l ++ [x]).length := (List.getElem?_eq_some_iff.1 hy).1
      simp [hl] at hi2
      have : i = n := by omega
      subst this
      rw [List.getElem?_append_right (by omega), hl, Nat.sub_self] at hy
      simp at hy; subst hy; exact hx

structure Chg where
  p : Int
  c : Int
  put : List Int

def Chg1 (w : World) (v0 v1 v2 : Value) (x : Chg) : Prop :=
  v0 = .int .i64 x.p ∧ v1 = .int .i64 x.c ∧ Row .i64 w v2 x.put ∧ (-9223372036854775808 ≤ x.p ∧ x.p ≤ 9223372036854775807) ∧ (-9223372036854775808 ≤ x.c ∧ x.c ≤ 9223372036854775807)
theorem Chg1.later {w w' : World} {v0 v1 v2 : Value} {x : Chg} (h : Chg1 w v0 v1 v2 x) (hb : Below w.heap.size w w') : Chg1 w' v0 v1 v2 x := ⟨h.1, h.2.1, h.2.2.1.later hb, h.2.2.2⟩

def Chgs (w : World) (v : Value) (cs : List Chg) : Prop :=
  ∃ A cap, v = .slice A cs.length cap ∧ cs.length ≤ cap ∧ cap ≤ maxLen ∧ (0 < cs.length → ∃ ad, A = some ad ∧ ad.block < w.heap.size ∧ ∀ i x, cs[i]? = some x →
    ∃ v0 v1 v2, w.cell? (ad.add (i * 3)) = some v0 ∧ w.cell? (ad.add (i * 3 + 1)) = some v1 ∧ w.cell? (ad.add (i * 3 + 2)) = some v2 ∧ Chg1 w v0 v1 v2 x)
theorem Chgs.later {w w' : World} {v : Value} {cs : List Chg} (h : Chgs w v cs) (hb : Below w.heap.size w w') : Chgs w' v cs := by
  obtain ⟨A, cap, hv, hl, hc, hr⟩ := h
  refine ⟨A, cap, hv, hl, hc, fun hp => ?_⟩
  obtain ⟨ad, ha, hb', hx⟩ := hr hp
  refine ⟨ad, ha, Nat.lt_of_lt_of_le hb' hb.size, fun i x hi => ?_⟩
  obtain ⟨v0, v1, v2, h0, h1, h2, h3⟩ := hx i x hi
  refine ⟨v0, v1, v2, ?_, ?_, ?_, h3.later hb⟩
  · rw [hb.cell (by rw [block_of_add]; exact hb')]; exact h0
  · rw [hb.cell (by rw [block_of_add]; exact hb')]; exact h1
  · rw [hb.cell (by rw [block_of_add]; exact hb')]; exact h2

theorem Chgs.plain {w : World} {v : Value} {cs : List Chg} (h : Chgs w v cs) :
    ∃ A cap, v = .slice A cs.length cap ∧ cs.length ≤ cap ∧ cap ≤ maxLen ∧ (0 < cs.length → ∃ b off, A = some ⟨b, off, none⟩ ∧ b < w.heap.size ∧ ∀ i x, cs[i]? = some x →
    ∃ v0 v1 v2, w.cell? ⟨b, off + i * 3, none⟩ = some v0 ∧ w.cell? ⟨b, off + i * 3 + 1, none⟩ = some v1 ∧ w.cell? ⟨b, off + i * 3 + 2, none⟩ = some v2 ∧ Chg1 w v0 v1 v2 x) := by
  obtain ⟨A, cap, hv, hl, hc, hr⟩ := h
  refine ⟨A, cap, hv, hl, hc, fun hp => ?_⟩
  obtain ⟨⟨b, off, spot⟩, rfl, hb, hx⟩ := hr hp
  have hspot : spot = none := by
    obtain ⟨v0, _, _, h0, _⟩ := hx 0 cs[0] (List.getElem?_eq_getElem hp)
    simpa [Addr.add] using World.cell?_spot h0
  subst hspot
  refine ⟨b, off, rfl, hb, fun i x hi => ?_⟩
  obtain ⟨v0, v1, v2, h0, h1, h2, h3⟩ := hx i x hi
  rw [add_plain] at h0 h1 h2
  exact ⟨v0, v1, v2, h0, by rw [Nat.add_assoc]; exact h1, by rw [Nat.add_assoc]; exact h2, h3⟩

set_option maxRecDepth 100000 in
theorem chg1_of {H : Type} {enc : TypeId × Value → H} {W : World} {held : Bool} {n0 n1 n2 : Nat} {v0 v1 v2 : Value} {y0 y1 y2 : DataW H × List MemPlace}
    (h0 : DataW.trod enc Try.prog W 0 (fun _ => true) held n0 3 [v0] = some y0) (h1 : DataW.trod enc Try.prog W 0 (fun _ => true) held n1 3 [v1] = some y1) (h2 : DataW.trod enc Try.prog W 0 (fun _ => true) held n2 22 [v2] = some y2)
    (hlt : ∀ p ∈ y2.2, p.block < W.heap.size) : ∃ x, Chg1 W v0 v1 v2 x := by
  obtain ⟨a, e0, _, wa⟩ := DataW.trod_int Try.underlying3 h0
  obtain ⟨b, e1, _, wb⟩ := DataW.trod_int Try.underlying3 h1
  simp at e0 e1
  obtain ⟨xs, hx⟩ := row_of_trod (k := .i64) Try.underlying22 Try.underlying3 (by kernel_rfl) h2 hlt
  exact ⟨⟨a, b, xs⟩, e0, e1, hx, bounds_i64 wa, bounds_i64 wb⟩

set_option maxRecDepth 100000 in
theorem open_change {H : Type} {enc : TypeId × Value → H} {W : World} {base : Nat} {v : Value} {d : DataW H} {p : List MemPlace}
    (hv : Value.okWide Try.prog W .any base 81 v) (h : DataW.Trod enc Try.prog W 0 (fun _ => true) true 81 v d p) (hlt : ∀ x ∈ p, x.block < W.heap.size) :
    ∃ z : Chg × Value × Value × Value, v = .agg #[z.2.1, z.2.2.1, z.2.2.2] ∧ Chg1 W z.2.1 z.2.2.1 z.2.2.2 z.1 := by
  obtain ⟨c0, c1, c2, y0, y1, y2, m, rfl, rfl, rfl, h0, h1, h2⟩ := Joins.open_agg3 Try.underlying81 (by kernel_rfl) (by kernel_rfl) hv h
  obtain ⟨x, hx⟩ := chg1_of h0 h1 h2 (fun q hq => hlt q (by simp [hq]))
  exact ⟨⟨x, c0, c1, c2⟩, rfl, hx⟩
end Go.Proofs.Ytpgjjnbepkofdaa
