/-
  How an argument that came in is told to a walk: 'Row': a slice of integers reads as a list. Plain lemmas: from the form's own reading to 'Row', and that 'Row' stays where nothing that was there is changed.
-/
import Derived.Test.YtamgnmhiglkagaaBase
import Derived.ProofKit
import Derived.OpenShut
import Derived.ShutString
import Derived.SizedLaws
import Derived.Below
namespace Go.Proofs.Ytamgnmhiglkagaa
set_option linter.unusedVariables false
open Go.ChangeShapes Go.WideShapes Go.ChangeAt Go.RowKit

def Row (k : IntKind) (w : World) (v : Value) (xs : List Int) : Prop :=
  ∃ a cap, v = .slice a xs.length cap ∧ xs.length ≤ cap ∧ cap ≤ 140737488351232 ∧ (∀ x ∈ xs, (Lit.int k x).wf = true) ∧
    (0 < xs.length → ∃ b off, a = some ⟨b, off, none⟩ ∧ b < w.heap.size ∧ ∀ i, i < xs.length → w.cell? ⟨b, off + i, none⟩ = some (.int k (xs.getD i 0)))

theorem Row.later {k : IntKind} {w w' : World} {v : Value} {xs : List Int} (h : Row k w v xs) (hb : Below w.heap.size w w') : Row k w' v xs := by
  obtain ⟨a, cap, hv, hl, hc, hw, hr⟩ := h
  refine ⟨a, cap, hv, hl, hc, hw, fun hp => ?_⟩
  obtain ⟨b, off, ha, hbl, hcell⟩ := hr hp
  refine ⟨b, off, ha, Nat.lt_of_lt_of_le hbl hb.size, fun i hi => ?_⟩
  rw [hb.cell (p := ⟨b, off + i, none⟩) hbl]; exact hcell i hi
theorem open_row {H : Type} {enc : TypeId × Value → H} {P : Program} {W : World} {base : Nat} {t e : TypeId} {k : IntKind} {v : Value} {d : DataW H} {p : List MemPlace}
    (ht : P.underlying t = some (.slice e)) (he : P.underlying e = some (.int k)) (hc : P.cellsOf e = 1) (hby : 1 ≤ P.bytesOf e)
    (hv : Value.okWide P W .any base t v) (h : DataW.Trod enc P W 0 (fun _ => true) true t v d p) (hlt : ∀ x ∈ p, x.block < W.heap.size)
    (hreach : ∀ elems spare, d = .slice elems spare → (elems.length + spare.length) * P.bytesOf e ≤ reachBytes) : ∃ xs, Row k W v xs := by
  obtain ⟨a, len, cap, rfl⟩ := okWide_slice ht hv
  obtain ⟨fuel, hf⟩ := h
  rcases open_ints ht he hc hf with ⟨hcs, _⟩ | ⟨x, l, c, zs, hcs, _, hl, hm, hz, hx, hcell, hwz⟩
  · simp [Value.cells] at hcs
    obtain ⟨rfl, rfl, rfl⟩ := hcs
    exact ⟨[], none, 0, rfl, Nat.le_refl _, by decide, by simp, by simp⟩
  · simp [Value.cells] at hcs
    obtain ⟨rfl, rfl, rfl⟩ := hcs
    simp only [Prod.mk.injEq] at hx
    obtain ⟨rfl, rfl⟩ := hx
    simp only [if_true] at hz
    have hr := hreach _ _ rfl
    simp only [lits, List.length_map, List.length_take, List.length_drop] at hr
    have hcap : cap ≤ 140737488351232 := by
      have h1 : reachBytes < 2 ^ 47 := reachBytes_lt
      have h3 : reachBytes = 140737488351232 := by decide
      have h2 : min len zs.length + (zs.length - len) = cap := by omega
      rw [h2] at hr
      have : cap * 1 ≤ cap * P.bytesOf e := Nat.mul_le_mul_left _ hby
      omega
    refine ⟨zs.take len, some x, cap, by rw [List.length_take, Nat.min_eq_left (by omega)], by rw [List.length_take]; omega, hcap, fun y hy => hwz y (List.mem_of_mem_take hy), fun hp => ?_⟩
    rw [List.length_take, Nat.min_eq_left (by omega)] at hp
    obtain ⟨b, off, rfl, hcell'⟩ := ints_at hcell (by omega)
    refine ⟨b, off, rfl, ?_, fun i hi => ?_⟩
    · exact hlt (.cell b (off + 0)) (by simp only [MemPlace.row, List.mem_map, List.mem_range]; exact ⟨0, by omega, rfl⟩)
    · rw [List.length_take] at hi
      rw [hcell' i (by omega)]
      have hi' : i < len := by omega
      simp [List.getD, hi']
end Go.Proofs.Ytamgnmhiglkagaa
