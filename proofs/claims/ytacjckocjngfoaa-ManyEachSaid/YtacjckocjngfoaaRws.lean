/-
  A list of lists of ints, opened.
-/
import Derived.Test.YtacjckocjngfoaaOpen
import Derived.Deep.Slices
import Derived.Deep.Fields
import Derived.ChangeSame
import Derived.Lib.SmallJoins
namespace Go.Proofs.Ytacjckocjngfoaa
open Go.ChangeShapes Go.WideShapes Go.ChangeAt Go.RowKit Go.Deep
set_option linter.unusedVariables false

theorem list_choose9 {α : Type} {P : Nat → α → Prop} (n : Nat) (h : ∀ i, i < n → ∃ x, P i x) : ∃ l : List α, l.length = n ∧ ∀ i x, l[i]? = some x → P i x := by
  induction n with
  | zero => exact ⟨[], rfl, fun i x hx => by simp at hx⟩
  | succ n ih =>
    obtain ⟨l, hl, hp⟩ := ih (fun i hi => h i (by omega))
    obtain ⟨x, hx⟩ := h n (by omega)
    refine ⟨l ++ [x], by simp [hl], fun i y hy => ?_⟩
    by_cases hi : i < n
    · rw [List.getElem?_append_left (by omega)] at hy; exact hp i y hy
    · have hi2 : i < (l ++ [x]).length := (List.getElem?_eq_some_iff.1 hy).1
      simp [hl] at hi2
      have : i = n := by omega
      subst this
      rw [List.getElem?_append_right (by omega), hl, Nat.sub_self] at hy
      simp at hy; subst hy; exact hx

def Rws (w : World) (v : Value) (xss : List (List Int)) : Prop :=
  ∃ A cap, v = .slice A xss.length cap ∧ xss.length ≤ cap ∧ cap ≤ maxLen ∧ (0 < xss.length → ∃ ad, A = some ad ∧ ad.block < w.heap.size ∧ ∀ i xs, xss[i]? = some xs → ∃ u, w.cell? (ad.add i) = some u ∧ Row .i64 w u xs)
theorem Rws.later {w w' : World} {v : Value} {xss : List (List Int)} (h : Rws w v xss) (hb : Below w.heap.size w w') : Rws w' v xss := by
  obtain ⟨A, cap, hv, hl, hc, hr⟩ := h
  refine ⟨A, cap, hv, hl, hc, fun hp => ?_⟩
  obtain ⟨ad, ha, hb', hx⟩ := hr hp
  refine ⟨ad, ha, Nat.lt_of_lt_of_le hb' hb.size, fun i x hi => ?_⟩
  obtain ⟨u, h0, h1⟩ := hx i x hi
  exact ⟨u, by rw [hb.cell (by rw [block_of_add]; exact hb')]; exact h0, h1.later hb⟩
theorem Rws.at_ {w : World} {A : Option Addr} {n c : Nat} {xss : List (List Int)} (h : Rws w (.slice A n c) xss) {i : Nat} (hi : i < xss.length) :
    ∃ b off u, A = some ⟨b, off, none⟩ ∧ b < w.heap.size ∧ w.cell? ⟨b, off + i, none⟩ = some u ∧ Row .i64 w u xss[i] := by
  obtain ⟨A', cap, hv, hl, hc, hr⟩ := h
  obtain ⟨⟨b, off, spot⟩, rfl, hb, hx⟩ := hr (by omega)
  injection hv with e1 _ _
  subst e1
  obtain ⟨u, h0, h1⟩ := hx i _ (List.getElem?_eq_getElem hi)
  obtain ⟨u', h0', _⟩ := hx 0 _ (List.getElem?_eq_getElem (show 0 < xss.length by omega))
  have hspot : spot = none := by simpa [Addr.add] using World.cell?_spot h0'
  subst hspot
  rw [add_plain] at h0
  exact ⟨b, off, u, rfl, hb, h0, h1⟩
set_option maxRecDepth 100000 in
theorem open_rows {H : Type} {enc : TypeId × Value → H} {W : World} {base : Nat} {v : Value} {d : DataW H} {p : List MemPlace}
    (hv : Value.okWide Try.prog W .any base 23 v) (h : DataW.Trod enc Try.prog W 0 (fun _ => true) true 23 v d p) (hlt : ∀ x ∈ p, x.block < W.heap.size) :
    ∃ xss, Rws W v xss := by
  obtain ⟨a, len, cap, rfl⟩ := okWide_slice Try.underlying23 hv
  obtain ⟨fuel, hf⟩ := h
  rcases open_slice1 Try.underlying23 (by kernel_rfl) hf with ⟨hcs, _⟩ | ⟨ad, len', cap', m, n, V, D, Pl, hcs, _, hl, hm, hmm, hx, hi⟩
  · simp [Value.cells] at hcs
    obtain ⟨rfl, rfl, rfl⟩ := hcs
    exact ⟨[], none, 0, rfl, Nat.le_refl _, by decide, by simp⟩
  · simp [Value.cells] at hcs
    obtain ⟨rfl, rfl, rfl⟩ := hcs
    simp only [if_true] at hmm
    subst hmm
    simp only [Prod.mk.injEq] at hx
    obtain ⟨rfl, rfl⟩ := hx
    have hch : ∀ i, i < len → ∃ x : List Int, ∃ u, W.cell? (ad.add i) = some u ∧ Row .i64 W u x := by
      intro i hil
      obtain ⟨h1, h2⟩ := hi i (by omega)
      obtain ⟨xs, hxs⟩ := row_of_trod (k := .i64) Try.underlying22 Try.underlying3 (by kernel_rfl) h2 (fun q hq => hlt q (by
        rw [List.mem_append]; right
        rw [List.mem_flatMap]; exact ⟨i, List.mem_range.2 (by omega), hq⟩))
      exact ⟨xs, _, h1, hxs⟩
    obtain ⟨xss, hlen, hxs⟩ := list_choose9 len hch
    subst hlen
    refine ⟨xss, some ad, _, rfl, hl, hm, fun hp => ⟨ad, rfl, ?_, fun i x hix => hxs i x hix⟩⟩
    exact hlt (.cell ad.block (ad.off + 0)) (by
      rw [List.mem_append]; left
      simp only [MemPlace.row, List.mem_map, List.mem_range]; exact ⟨0, by omega, rfl⟩)
end Go.Proofs.Ytacjckocjngfoaa
