/-
  A slice of strings that lies below B: plain.
-/
import Derived.Test.YtpgjjnbepkofdaaOpen
namespace Go.Proofs.Ytpgjjnbepkofdaa
open Go.RowKit
set_option linter.unusedVariables false

/-- A slice of strings that lies below B. -/
def SRB (w : World) (B : Nat) (v : Value) (ss : List ByteArray) : Prop :=
  ∃ A c, v = .slice A ss.length c ∧ ss.length ≤ c ∧ c ≤ maxLen ∧ Reads w B 1 A ss.length (ss.map .string)
theorem SRB.below {w w' : World} {B : Nat} {v : Value} {ss : List ByteArray} (h : SRB w B v ss) (hb : Below B w w') : SRB w' B v ss := by
  obtain ⟨A, c, hv, hl, hc, hr⟩ := h
  exact ⟨A, c, hv, hl, hc, hr.below hb⟩
theorem SRB.of {w : World} {v : Value} {ss : List ByteArray} (h : SRow w v ss) : SRB w w.heap.size v ss := h
theorem SRB.plain {w : World} {B : Nat} {A : Option Addr} {n c : Nat} {ss : List ByteArray} (h : SRB w B (.slice A n c) ss) (hp : 0 < ss.length) : ∃ b o, A = some ⟨b, o, none⟩ := by
  obtain ⟨A', c', hv, hl, hc, hr⟩ := h
  injection hv with h1 h2 h3
  subst h1
  obtain ⟨b, o, rfl, _⟩ := hr.plain hp (by omega)
  exact ⟨b, o, rfl⟩
theorem SRB.zero {w : World} {B : Nat} (A : Option Addr) {ss : List ByteArray} (h : ss.length = 0) : SRB w B (.slice A 0 0) ss :=
  ⟨A, 0, by rw [h], by omega, by decide, ⟨by simp [h], fun hp => by omega⟩⟩
theorem SRB.drop {w : World} {B : Nat} {A : Option Addr} {c : Nat} {ss : List ByteArray} {k : Nat} (h : SRB w B (.slice A ss.length c) ss) (hk : k ≤ ss.length) : SRB w B (.slice (if c = k then A else A.map (·.add k)) (ss.length - k) (c - k)) (ss.drop k) := by
  obtain ⟨A', c', hv, hl, hc, hr⟩ := h
  injection hv with h1 h2 h3
  subst h1; subst h3
  have hlen : (ss.drop k).length = ss.length - k := by rw [List.length_drop]
  have hcut := hr.cut (k := k) (cap := c) hk hl
  simp only [Nat.mul_one] at hcut
  refine ⟨_, _, by rw [hlen], by rw [hlen]; omega, by omega, ?_⟩
  rw [hlen, List.map_drop]
  exact hcut
theorem SRB.head {w : World} {B : Nat} {A : Option Addr} {c : Nat} {ss : List ByteArray} {k : Nat} (h : SRB w B (.slice A ss.length c) ss) (hk : k ≤ ss.length) : Reads w B 1 A k ((ss.take k).map .string) := by
  obtain ⟨A', c', hv, hl, hc, hr⟩ := h
  injection hv with h1 h2 h3
  subst h1
  refine ⟨by simp; omega, fun hp => ?_⟩
  obtain ⟨ad, ha, hb, hcell⟩ := hr.2 (by omega)
  refine ⟨ad, ha, hb, fun j u hu => hcell j u ?_⟩
  rw [List.map_take, List.getElem?_take] at hu
  split at hu
  · exact hu
  · simp at hu
end Go.Proofs.Ytpgjjnbepkofdaa
