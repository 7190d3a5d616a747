/-
  A list of changes, opened.
-/
import Derived.Test.YtpgjjnbepkofdaaOpen
import Derived.Deep.Slices
import Derived.Deep.Fields
import Derived.ChangeSame
import Derived.Lib.SmallJoins
import Derived.Test.YtpgjjnbepkofdaaChg
namespace Go.Proofs.Ytpgjjnbepkofdaa
open Go.ChangeShapes Go.WideShapes Go.ChangeAt Go.RowKit Go.Deep
set_option linter.unusedVariables false
set_option maxRecDepth 100000 in
theorem open_changes {H : Type} {enc : TypeId × Value → H} {W : World} {base : Nat} {v : Value} {d : DataW H} {p : List MemPlace}
    (hv : Value.okWide Try.prog W .any base 43 v) (h : DataW.Trod enc Try.prog W 0 (fun _ => true) true 43 v d p) (hlt : ∀ x ∈ p, x.block < W.heap.size) :
    ∃ cs, Chgs W v cs := by
  obtain ⟨a, len, cap, rfl⟩ := okWide_slice Try.underlying43 hv
  obtain ⟨fuel, hf⟩ := h
  rcases open_slice_fields Try.underlying43 Try.underlying81 (by kernel_rfl) (by kernel_rfl) hf with ⟨hcs, _⟩ | ⟨ad, len', cap', m, D, Pl, hcs, _, hl, hm, hmm, hx, hi⟩
  · simp [Value.cells] at hcs
    obtain ⟨rfl, rfl, rfl⟩ := hcs
    exact ⟨[], none, 0, rfl, Nat.le_refl _, by decide, by simp⟩
  · simp [Value.cells] at hcs
    obtain ⟨rfl, rfl, rfl⟩ := hcs
    simp only [if_true] at hmm
    subst hmm
    simp only [Prod.mk.injEq] at hx
    obtain ⟨rfl, rfl⟩ := hx
    have hch : ∀ i, i < len → ∃ x : Chg, ∃ v0 v1 v2, W.cell? (ad.add (i * 3)) = some v0 ∧ W.cell? (ad.add (i * 3 + 1)) = some v1 ∧ W.cell? (ad.add (i * 3 + 2)) = some v2 ∧ Chg1 W v0 v1 v2 x := by
      intro i hil
      obtain ⟨ys, n, _, hpl, _, hfi⟩ := hi i (by omega)
      obtain ⟨v0, y0, c0, e0, t0⟩ := hfi 0 _ rfl
      obtain ⟨v1, y1, c1, e1, t1⟩ := hfi 1 _ rfl
      obtain ⟨v2, y2, c2, e2, t2⟩ := hfi 2 _ rfl
      obtain ⟨x, hx⟩ := chg1_of t0 t1 t2 (fun q hq => hlt q (by
        rw [List.mem_append]; right
        rw [List.mem_flatMap]; refine ⟨i, by simp; omega, ?_⟩
        rw [hpl, List.mem_flatMap]; exact ⟨y2, List.mem_of_getElem? e2, hq⟩))
      exact ⟨x, v0, v1, v2, c0, c1, c2, hx⟩
    obtain ⟨cs, hlen, hcs⟩ := list_choose len hch
    subst hlen
    refine ⟨cs, some ad, _, rfl, hl, hm, fun hp => ⟨ad, rfl, ?_, fun i x hix => hcs i x hix⟩⟩
    exact hlt (.cell ad.block (ad.off + 0)) (by
      rw [List.mem_append]; left
      simp only [MemPlace.row, List.mem_map, List.mem_range]; exact ⟨0, by simp; omega, rfl⟩)
end Go.Proofs.Ytpgjjnbepkofdaa
