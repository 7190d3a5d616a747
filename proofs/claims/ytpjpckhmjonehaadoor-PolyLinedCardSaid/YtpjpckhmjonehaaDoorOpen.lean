/-
  How an argument that came in is told to a walk: 'Row': a slice of integers reads as a list. Plain lemmas: from the form's own reading to 'Row', and that 'Row' stays where nothing that was there is changed.
-/
import Derived.Test.YtpjpckhmjonehaaDoorBase
import Derived.ProofKit
import Derived.OpenShut
import Derived.ShutString
import Derived.SizedLaws
import Derived.Below
namespace Go.Proofs.YtpjpckhmjonehaaDoor
set_option linter.unusedVariables false
open Go.ChangeShapes Go.WideShapes Go.ChangeAt Go.RowKit

def Row (k : IntKind) (w : World) (v : Value) (xs : List Int) : Prop :=
  ∃ A c, v = .slice A xs.length c ∧ xs.length ≤ c ∧ c ≤ maxLen ∧ (∀ x ∈ xs, (Lit.int k x).wf = true) ∧ Reads w w.heap.size 1 A xs.length (xs.map (.int k))

theorem Row.later {k : IntKind} {w w' : World} {v : Value} {xs : List Int} (h : Row k w v xs) (hb : Below w.heap.size w w') : Row k w' v xs := by
  obtain ⟨A, c, hv, hl, hc, hw, hr⟩ := h
  exact ⟨A, c, hv, hl, hc, hw, (hr.below hb).more hb.size⟩
theorem Row.bd {w : World} {v : Value} {xs : List Int} (h : Row .i64 w v xs) (i : Nat) : -9223372036854775808 ≤ xs.getD i 0 ∧ xs.getD i 0 ≤ 9223372036854775807 := by
  obtain ⟨A, c, hv, hl, hc, hw, hr⟩ := h
  by_cases hi : i < xs.length
  · have := bounds_i64 (hw (xs.getD i 0) (by simp [List.getD, hi]))
    exact this
  · simp [List.getD, List.getElem?_eq_none (show xs.length ≤ i by omega)]
theorem Row.len {k : IntKind} {w : World} {v : Value} {xs : List Int} (h : Row k w v xs) : xs.length ≤ maxLen := by
  obtain ⟨A, c, hv, hl, hc, hw, hr⟩ := h; omega
theorem Row.at_ {k : IntKind} {w : World} {B : Nat} {A : Option Addr} {xs : List Int} (h : Reads w B 1 A xs.length (xs.map (.int k))) {i : Nat} (hi : i < xs.length) :
    ∃ b off, A = some ⟨b, off, none⟩ ∧ b < B ∧ w.cell? ⟨b, off + i, none⟩ = some (.int k (xs.getD i 0)) := by
  obtain ⟨b, off, rfl, hb, hc⟩ := h.plain (by omega) (by omega)
  exact ⟨b, off, rfl, hb, hc i _ (by simp [List.getD, hi])⟩
/-- A slice of strings that reads as a list. -/
def SRow (w : World) (v : Value) (ss : List ByteArray) : Prop :=
  ∃ A c, v = .slice A ss.length c ∧ ss.length ≤ c ∧ c ≤ maxLen ∧ Reads w w.heap.size 1 A ss.length (ss.map .string)
theorem SRow.later {w w' : World} {v : Value} {ss : List ByteArray} (h : SRow w v ss) (hb : Below w.heap.size w w') : SRow w' v ss := by
  obtain ⟨A, c, hv, hl, hc, hr⟩ := h
  exact ⟨A, c, hv, hl, hc, (hr.below hb).more hb.size⟩
theorem SRow.at_ {w : World} {B : Nat} {A : Option Addr} {ss : List ByteArray} (h : Reads w B 1 A ss.length (ss.map .string)) {i : Nat} (hi : i < ss.length) :
    ∃ b off, A = some ⟨b, off, none⟩ ∧ b < B ∧ w.cell? ⟨b, off + i, none⟩ = some (.string ss[i]) := by
  obtain ⟨b, off, rfl, hb, hc⟩ := h.plain (by omega) (by omega)
  exact ⟨b, off, rfl, hb, hc i _ (by simp [hi])⟩
theorem SRow.of_own {w : World} {base : Nat} {e : TypeId} {v : Value} {ss : List ByteArray} (h : w.ownsRow base e 1 v ss.length (ss.map .string)) : SRow w v ss := by
  rcases h.2 with ⟨rfl, hn⟩ | ⟨g, cap, cur, rfl, hb, hh, hnc, hcm, hs, ht⟩
  · have : ss = [] := List.length_eq_zero_iff.1 hn
    subst this
    exact ⟨none, 0, rfl, Nat.le_refl _, by decide, ⟨by simp, by simp⟩⟩
  · exact ⟨_, cap, rfl, hnc, hcm, Reads.of_own h⟩
/-- A slice literal of strings, just made. -/
theorem SRow.lit (w : World) (e : TypeId) (ss : List ByteArray) (h : ss.length ≤ maxLen) : SRow (w.alloc (.cells (ss.map .string).toArray e)) (.slice (some ⟨w.heap.size, 0, none⟩) ss.length ss.length) ss := by
  refine ⟨_, _, rfl, Nat.le_refl _, h, ⟨by simp, fun hp => ⟨_, rfl, by simp, fun j u hu => ?_⟩⟩⟩
  have hb := Blk.new w e (ss.map .string).toArray
  have ha : (⟨w.heap.size, 0, none⟩ : Addr).add j = ⟨w.heap.size, j, none⟩ := by unfold Addr.add; split <;> simp_all
  rw [ha, hb.cell]; simpa using hu
/-- A slice literal of integers, just made. -/
theorem Row.lit (w : World) (e : TypeId) (k : IntKind) (xs : List Int) (h : xs.length ≤ maxLen) (hw : ∀ x ∈ xs, (Lit.int k x).wf = true) : Row k (w.alloc (.cells (xs.map (.int k)).toArray e)) (.slice (some ⟨w.heap.size, 0, none⟩) xs.length xs.length) xs := by
  refine ⟨_, _, rfl, Nat.le_refl _, h, hw, ⟨by simp, fun hp => ⟨_, rfl, by simp, fun j u hu => ?_⟩⟩⟩
  have hb := Blk.new w e (xs.map (.int k)).toArray
  have ha : (⟨w.heap.size, 0, none⟩ : Addr).add j = ⟨w.heap.size, j, none⟩ := by unfold Addr.add; split <;> simp_all
  rw [ha, hb.cell]; simpa using hu
theorem row_of_own {w : World} {base : Nat} {e : TypeId} {k : IntKind} {v : Value} {xs : List Int} (h : w.ownsRow base e 1 v xs.length (xs.map (.int k))) (hw : ∀ x ∈ xs, (Lit.int k x).wf = true) : Row k w v xs := by
  rcases h.2 with ⟨rfl, hn⟩ | ⟨g, cap, cur, rfl, hb, hh, hnc, hcm, hs, ht⟩
  · have : xs = [] := List.length_eq_zero_iff.1 hn
    subst this
    exact ⟨none, 0, rfl, Nat.le_refl _, by decide, hw, ⟨by simp, by simp⟩⟩
  · exact ⟨_, cap, rfl, hnc, hcm, hw, Reads.of_own h⟩

theorem row_of_trod {H : Type} {enc : TypeId × Value → H} {P : Program} {W : World} {base : Nat} {held : Bool} {fuel : Nat} {t e : TypeId} {k : IntKind} {v : Value} {x : DataW H × List MemPlace}
    (ht : P.underlying t = some (.slice e)) (he : P.underlying e = some (.int k)) (hc : P.cellsOf e = 1)
    (hf : DataW.trod enc P W base (fun _ => true) held fuel t [v] = some x) (hlt : ∀ p ∈ x.2, p.block < W.heap.size) : ∃ xs, Row k W v xs := by
  rcases open_ints ht he hc hf with ⟨hcs, _⟩ | ⟨ad, len, cap, zs, hcs, _, hl, hm, hz, hx, hcell, hwz⟩
  · simp only [List.cons.injEq, and_true] at hcs
    subst hcs
    exact ⟨[], none, 0, rfl, Nat.le_refl _, by decide, by simp, ⟨by simp, by simp⟩⟩
  · simp only [List.cons.injEq, and_true] at hcs
    subst hcs
    simp only [if_true] at hz
    have hlen : (zs.take len).length = len := by rw [List.length_take, Nat.min_eq_left (by omega)]
    refine ⟨zs.take len, some ad, cap, by rw [hlen], by omega, hm, fun y hy => hwz y (List.mem_of_mem_take hy), ⟨by simp, fun hp => ⟨ad, rfl, ?_, ?_⟩⟩⟩
    · rw [hx] at hlt
      exact hlt (.cell ad.block (ad.off + 0)) (by simp only [MemPlace.row, List.mem_map, List.mem_range]; exact ⟨0, by omega, rfl⟩)
    · intro j u hu
      have hj : j < len := by
        have := (List.getElem?_eq_some_iff.1 hu).1
        rw [List.length_map] at this; omega
      rw [hcell j (by omega), ← hu]
      have hj2 : j < zs.length := by omega
      simp [List.getD, hj, hj2]
theorem open_row {H : Type} {enc : TypeId × Value → H} {P : Program} {W : World} {base : Nat} {t e : TypeId} {k : IntKind} {v : Value} {d : DataW H} {p : List MemPlace}
    (ht : P.underlying t = some (.slice e)) (he : P.underlying e = some (.int k)) (hc : P.cellsOf e = 1)
    (hv : Value.okWide P W .any base t v) (h : DataW.Trod enc P W 0 (fun _ => true) true t v d p) (hlt : ∀ x ∈ p, x.block < W.heap.size) : ∃ xs, Row k W v xs := by
  obtain ⟨a, len, cap, rfl⟩ := okWide_slice ht hv
  obtain ⟨fuel, hf⟩ := h
  exact row_of_trod ht he hc hf hlt
end Go.Proofs.YtpjpckhmjonehaaDoor
