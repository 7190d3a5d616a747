/-
  A region that draws its order, walked in phases; a phase may hold pairs of operations that lay memory, each in either order. No function of the program is spoken of here.
-/
import Derived.Test.YthemlhkdgaeogaaOrd
namespace Go.Proofs.Ythemlhkdgaeogaa
open Go.RowKit
set_option linter.unusedVariables false

section
variable {P : Program} {ops : Array Oper} {md : Region.Mode} {I : World → Prop}

/-- Pairs, one after the other, each in either order. -/
def wpFk (P : Program) (ops : Array Oper) (I : World → Prop) (Φ : Act → World → Prop) : List (Nat × Nat) → Act → World → Prop
  | [], a, w => Φ a w
  | (i, j) :: fs, a, w => wpRB P ops I (wpFk P ops I Φ fs) (pickOps ops.toList [i, j]) a w ∧ wpRB P ops I (wpFk P ops I Φ fs) (pickOps ops.toList [j, i]) a w
def okFk (md : Region.Mode) (ops : Array Oper) (c : Array Bool → Bool) : List (Nat × Nat) → Array Bool → Bool
  | [], listed => c listed
  | (i, j) :: fs, listed => decide (Region.ready md ops listed = [i, j]) && okR md ops (okFk md ops c fs) [j] (listed.setIfInBounds i true) && okR md ops (okFk md ops c fs) [i] (listed.setIfInBounds j true)
theorem wpRB_mono {Φ Ψ : Act → World → Prop} (h : ∀ a w, Φ a w → Ψ a w) : ∀ (l : List Oper) (a : Act) (w : World), wpRB P ops I Φ l a w → wpRB P ops I Ψ l a w
  | [], a, w, hk => h a w hk
  | o :: l, a, w, hk => ROp.mono (fun a' w1 hk => ⟨hk.1, fun w2 hw2 hI2 => wpRB_mono h l a' w2 (hk.2 w2 hw2 hI2)⟩) hk
theorem wpRB_inv {Φ : Act → World → Prop} : ∀ (l : List Oper) (a : Act) (w : World), I w → wpRB P ops I Φ l a w → wpRB P ops I (fun a w => I w ∧ Φ a w) l a w
  | [], a, w, hi, hk => ⟨hi, hk⟩
  | o :: l, a, w, hi, hk => ROp.mono (fun a' w1 hk => ⟨hk.1, fun w2 hw2 hI2 => wpRB_inv l a' w2 hI2 (hk.2 w2 hw2 hI2)⟩) hk
theorem wpFk_inv {Φ : Act → World → Prop} : ∀ (fs : List (Nat × Nat)) (a : Act) (w : World), I w → wpFk P ops I Φ fs a w → wpFk P ops I (fun a w => I w ∧ Φ a w) fs a w
  | [], a, w, hi, hk => ⟨hi, hk⟩
  | (i, j) :: fs, a, w, hi, hk =>
    ⟨wpRB_mono (fun a w h => wpFk_inv fs a w h.1 h.2) _ _ _ (wpRB_inv _ a w hi hk.1), wpRB_mono (fun a w h => wpFk_inv fs a w h.1 h.2) _ _ _ (wpRB_inv _ a w hi hk.2)⟩
theorem okFk_lex {Q : Exit → Act → World → Prop} {Φ : Act → World → Prop} {c : Array Bool → Bool} {n : Nat} (hc : ∀ listed a w, c listed = true → Φ a w → TA P md ops I Q n listed a w) : ∀ (fs : List (Nat × Nat)) (listed : Array Bool) (a : Act) (w : World),
    okFk md ops c fs listed = true → wpFk P ops I Φ fs a w → TA P md ops I Q (n + 2 * fs.length) listed a w
  | [], listed, a, w, hB, h => hc listed a w hB h
  | (i, j) :: fs, listed, a, w, hB, h => by
    simp only [okFk, Bool.and_eq_true, decide_eq_true_eq] at hB
    obtain ⟨⟨hrd, hB1⟩, hB2⟩ := hB
    obtain ⟨hh1, hh2⟩ := h
    have hri : i ∈ Region.ready md ops listed := by rw [hrd]; simp
    have hrj : j ∈ Region.ready md ops listed := by rw [hrd]; simp
    obtain ⟨oi, hi0⟩ := ready_op hri
    obtain ⟨oj, hj0⟩ := ready_op hrj
    have hi' : ops.toList[i]? = some oi := by simpa using hi0
    have hj' : ops.toList[j]? = some oj := by simpa using hj0
    rw [pickOps_cons hi'] at hh1
    rw [pickOps_cons hj'] at hh2
    rw [List.length_cons, show n + 2 * (fs.length + 1) = (n + 2 * fs.length + 1) + 1 by omega]
    unfold TA
    refine ⟨fun h => (by rw [h] at hri; cases hri), fun k hk => ?_⟩
    rw [hrd] at hk
    have hk2 : k = i ∨ k = j := by simpa using hk
    have hc' : ∀ listed a w, okFk md ops c fs listed = true → wpFk P ops I Φ fs a w → TA P md ops I Q (n + 2 * fs.length) listed a w := fun listed a w hB h => okFk_lex hc fs listed a w hB h
    rcases hk2 with rfl | rfl
    · exact ⟨oi, hi0, ROp.mono (fun a' w1 hk1 => ⟨hk1.1, fun w2 hw2 hI2 => okR_lex hc' [j] _ a' w2 hB1 (hk1.2 w2 hw2 hI2)⟩) hh1⟩
    · exact ⟨oj, hj0, ROp.mono (fun a' w1 hk1 => ⟨hk1.1, fun w2 hw2 hI2 => okR_lex hc' [i] _ a' w2 hB2 (hk1.2 w2 hw2 hI2)⟩) hh2⟩

def wpPf {ι : Type} (P : Program) (ops : Array Oper) (I : World → Prop) (F : ι → World) (Q : Exit → Act → World → Prop) : List (List Nat × List (Nat × Nat) × List Nat) → Act → World → Prop
  | [], a, w => Q .normal a w
  | (q, f, r) :: ps, a, w => wpB P ops F (fun a' => ∀ w2, Below w.heap.size w w2 → I w2 → wpFk P ops I (wpRB P ops I (wpPf P ops I F Q ps) (pickOps ops.toList r)) f a' w2) (pickOps ops.toList q) a
def okPf (md : Region.Mode) (ops : Array Oper) : List (List Nat × List (Nat × Nat) × List Nat) → Array Bool → Bool
  | [], listed => (Region.ready md ops listed).isEmpty
  | (q, f, r) :: ps, listed => okQ md ops (okFk md ops (okR md ops (okPf md ops ps) r) f) q listed
def pfLen : List (List Nat × List (Nat × Nat) × List Nat) → Nat
  | [] => 0
  | (q, f, r) :: ps => q.length + 2 * f.length + r.length + pfLen ps
def pfB (md : Region.Mode) (ops : Array Oper) (ps : List (List Nat × List (Nat × Nat) × List Nat)) : Bool :=
  Region.noSelect ops && decide (pfLen ps = ops.size) && okPf md ops ps (Array.replicate ops.size false)
theorem wpPf_nil {ι : Type} {F : ι → World} {Q : Exit → Act → World → Prop} {a : Act} {w : World} (h : Q .normal a w) : wpPf P ops I F Q [] a w := h
theorem wpPf_cons {ι : Type} {F : ι → World} {Q : Exit → Act → World → Prop} {q r : List Nat} {f : List (Nat × Nat)} {ps : List (List Nat × List (Nat × Nat) × List Nat)} {a : Act} {w : World} {l : List Oper}
    (h : wpB P l.toArray F (fun a' => ∀ w2, Below w.heap.size w w2 → I w2 → wpFk P l.toArray I (wpRB P l.toArray I (wpPf P l.toArray I F Q ps) (pickOps l r)) f a' w2) (pickOps l q) a) : wpPf P l.toArray I F Q ((q, f, r) :: ps) a w := h
theorem wpFk_nil {Φ : Act → World → Prop} {a : Act} {w : World} (h : Φ a w) : wpFk P ops I Φ [] a w := h
theorem wpFk_cons {Φ : Act → World → Prop} {i j : Nat} {fs : List (Nat × Nat)} {a : Act} {w : World} {l : List Oper} (h1 : wpRB P l.toArray I (wpFk P l.toArray I Φ fs) (pickOps l [i, j]) a w) (h2 : wpRB P l.toArray I (wpFk P l.toArray I Φ fs) (pickOps l [j, i]) a w) :
    wpFk P l.toArray I Φ ((i, j) :: fs) a w := ⟨h1, h2⟩
theorem okPf_lex {ι : Type} {F : ι → World} {Q : Exit → Act → World → Prop} (hsel : Region.noSelect ops = true) (hI : ∀ w w', I w → Below w.heap.size w w' → I w') (hF : ∀ w, I w → ∃ i, F i = w) : ∀ (ps : List (List Nat × List (Nat × Nat) × List Nat)) (listed : Array Bool) (a : Act) (w : World),
    okPf md ops ps listed = true → wpPf P ops I F Q ps a w → I w ∨ ps = [] → TA P md ops I Q (pfLen ps) listed a w
  | [], listed, a, w, hB, h, _ => ⟨by simpa [okPf] using hB, h⟩
  | (q, f, r) :: ps, listed, a, w, hB, h, h0 => by
    simp only [okPf] at hB
    have hI0 : I w := h0.resolve_right (fun e => by cases e)
    have e : pfLen ((q, f, r) :: ps) = pfLen ps + r.length + 2 * f.length + q.length := by simp only [pfLen]; omega
    rw [e]
    refine okQ_lex (w := w) (Ψ := fun a w => I w ∧ wpFk P ops I (wpRB P ops I (wpPf P ops I F Q ps) (pickOps ops.toList r)) f a w) hsel hI hF ?_ q listed a hB ?_ w (Below.refl _ _) hI0
    · intro listed a w hB h
      refine okFk_lex (Φ := fun a w => I w ∧ wpRB P ops I (wpPf P ops I F Q ps) (pickOps ops.toList r) a w) ?_ f listed a w hB (wpFk_inv f a w h.1 h.2)
      intro listed a w hB h
      refine okR_lex (Φ := fun a w => I w ∧ wpPf P ops I F Q ps a w) ?_ r listed a w hB (wpRB_inv _ a w h.1 h.2)
      intro listed a w hB h
      exact okPf_lex hsel hI hF ps listed a w hB h.2 (.inl h.1)
    · have key : ∀ (l : List Oper) (a : Act), wpB P ops F (fun a' => ∀ w2, Below w.heap.size w w2 → I w2 → wpFk P ops I (wpRB P ops I (wpPf P ops I F Q ps) (pickOps ops.toList r)) f a' w2) l a →
          wpB P ops F (fun a' => ∀ w2, Below w.heap.size w w2 → I w2 → I w2 ∧ wpFk P ops I (wpRB P ops I (wpPf P ops I F Q ps) (pickOps ops.toList r)) f a' w2) l a := by
        intro l
        induction l with
        | nil => intro a h w2 hw2 hI2; exact ⟨hI2, h w2 hw2 hI2⟩
        | cons o l ih =>
          intro a h
          unfold wpB at h ⊢
          split at h
          · rename_i hw
            rw [if_pos hw]
            obtain ⟨v, hv, hn⟩ := h
            exact ⟨v, hv, ih _ hn⟩
          · rename_i hw
            rw [if_neg hw]
            exact ih _ h
      exact key _ a h
theorem wp_region_pf {id : Nat} {Q : Exit → Act → World → Prop} {a : Act} {w : World} {l : List Oper} (ps : List (List Nat × List (Nat × Nat) × List Nat)) (I : World → Prop) (hm : P.follows .mixedOrders = true) (hB : pfB .any l.toArray ps = true)
    (hI : ∀ w w', I w → Below w.heap.size w w' → I w') (h0 : I w)
    (h : ∀ (ι : Type) (F : ι → World), Nonempty ι → (∀ i, I (F i)) → ∀ w0, Below w.heap.size w w0 → I w0 → wpPf P l.toArray I F Q ps a w0) : (Code.region id l.toArray true).wp P Q a w := by
  simp only [pfB, Bool.and_eq_true, decide_eq_true_eq] at hB
  obtain ⟨⟨hsel, hn⟩, hQ⟩ := hB
  have hw0 : Below w.heap.size w w.drew := below_drewN (Below.refl _ _) 1
  have hI0 := hI _ _ h0 hw0
  have H := okPf_lex (P := P) (md := .any) (Q := Q) (I := I) (F := fun i : {w : World // I w} => i.1) hsel hI (fun w hw => ⟨⟨w, hw⟩, rfl⟩) ps (Array.replicate l.toArray.size false) a w.drew hQ
    (h {w : World // I w} (fun i => i.1) ⟨⟨w, h0⟩⟩ (fun i => i.2) w.drew hw0 hI0) (.inl hI0)
  refine wp_region_any hm ?_
  have := TA_any _ _ _ _ H
  rw [hn] at this
  exact this
end
end Go.Proofs.Ythemlhkdgaeogaa
