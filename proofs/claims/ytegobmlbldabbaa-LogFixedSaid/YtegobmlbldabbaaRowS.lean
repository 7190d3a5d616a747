/-
  A slice of integers that came in, with the bound on its length that the form's reach gives.
-/
import Derived.Test.YtegobmlbldabbaaOpen
namespace Go.Proofs.Ytegobmlbldabbaa
set_option linter.unusedVariables false
open Go.ChangeShapes Go.WideShapes Go.ChangeAt Go.RowKit

theorem open_row_sized {H : Type} {enc : TypeId × Value → H} {P : Program} {W : World} {base : Nat} {t e : TypeId} {k : IntKind} {v : Value} {d : DataW H} {p : List MemPlace} {ts : List TypeId} {ds : List (DataW H)} {j : Nat}
    (ht : P.underlying t = some (.slice e)) (he : P.underlying e = some (.int k)) (hc : P.cellsOf e = 1) (hb : P.bytesOf e = 1)
    (hv : Value.okWide P W .any base t v) (h : DataW.Trod enc P W 0 (fun _ => true) true t v d p) (hlt : ∀ x ∈ p, x.block < W.heap.size)
    (hsz : (DataW.weightsEach P ts ds).all (· ≤ reachBytes) = true) (hj : ts[j]? = some t) (hd : ds[j]? = some d) : ∃ xs, Row k W v xs ∧ xs.length ≤ 140737488351232 := by
  obtain ⟨xs, hx⟩ := open_row ht he hc hv h hlt
  refine ⟨xs, hx, ?_⟩
  obtain ⟨A, c, rfl, _⟩ := hx
  obtain ⟨fuel, hf⟩ := h
  rcases open_ints ht he hc hf with ⟨hcs, h0⟩ | ⟨ad, len, cap, zs, hcs, _, hl, hm, hz, hx, _⟩
  · injection hcs with hcs _
    injection hcs with _ h1 _
    omega
  · injection hcs with hcs _
    injection hcs with _ h1 _
    simp only [if_true] at hz
    injection hx with hx1 _
    subst hx1
    have h3 := sized_slice hsz hj hd ht
    rw [hb] at h3
    have h4 : reachBytes = 140737488351232 := by decide
    have h5 : (lits (H := H) k (zs.take len)).length = len := by simp [lits]; omega
    rw [h5] at h3
    omega
end Go.Proofs.Ytegobmlbldabbaa
