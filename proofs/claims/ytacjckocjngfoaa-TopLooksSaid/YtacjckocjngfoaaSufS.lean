/-
  Ends of a text sorted by twice as many bytes: the call of slices.SortFunc in suffix.sorted.
-/
import Derived.Test.YtacjckocjngfoaaSortI
import Derived.Test.YtacjckocjngfoaaSufC
namespace Go.Proofs.Ytacjckocjngfoaa
open Go.RowKit Go.Shelf Go.Sort
set_option linter.unusedVariables false
set_option linter.unusedSimpArgs false

def scf (S : List UInt8) (w : Nat) {n : Nat} (a b : Fin n) : Int := cmpW (suf S a.val (w + w)) (suf S b.val (w + w))
theorem scf_swo (S : List UInt8) (w n : Nat) : SWO (ltOf (scf S w (n := n))) := by
  have e : ∀ x y : Fin n, ltOf (scf S w) x y = true ↔ suf S x.val (w + w) < suf S y.val (w + w) := fun x y => by unfold ltOf scf; rw [decide_eq_true_eq]; exact cmpW_neg _ _
  have e2 : ∀ x y : Fin n, ltOf (scf S w) x y = false ↔ ¬ suf S x.val (w + w) < suf S y.val (w + w) := fun x y => by rw [← e]; simp
  refine ⟨fun x => (e2 x x).2 (lt_irr _), fun x y z h1 h2 => ?_, fun x y z h1 h2 => ?_⟩
  · rw [e] at *; exact List.lt_trans h1 h2
  · rw [e2] at *
    exact List.not_lt.2 (List.le_trans (List.not_lt.1 h2) (List.not_lt.1 h1))
theorem sufSort_any (S : List UInt8) (w : Nat) (r : Nat → Nat) (hr : RankOk S w r) (hw0 : 0 < w) (hw : w ≤ 100000) (hn : S.length ≤ 1000) (hn0 : 0 < S.length) (l0 : List (Fin S.length)) (hl : l0.length = S.length) (g c base gw gn gr rb gs : Nat) (W : World)
    (h : W.ownsRow base 3 1 (.slice (some ⟨g, 0, none⟩) S.length c) S.length (l0.map encF))
    (hb : Gr.SufBox W S.length w r gw gn gr rb) (hs : W.cell? ⟨gs, 0, none⟩ = some (.func (.func 32) #[] #[.pointer (some ⟨gw, 0, none⟩), .pointer (some ⟨gn, 0, none⟩), .pointer (some ⟨gr, 0, none⟩)]))
    (h1 : gw ≠ g) (h2 : gn ≠ g) (h3 : gr ≠ g) (h4 : rb ≠ g) (h5 : gs ≠ g) :
    Calls Try.prog 35 #[.slice (some ⟨g, 0, none⟩) S.length c, .func (.func 33) #[] #[.pointer (some ⟨gr, 0, none⟩), .pointer (some ⟨gs, 0, none⟩)]] W fun e w' =>
      e = .returned (.tuple #[]) ∧ ∃ l : List (Fin S.length), List.Perm l l0 ∧ (l.Pairwise fun a b => ¬ suf S b.val (w + w) < suf S a.val (w + w)) ∧ w'.ownsRow base 3 1 (.slice (some ⟨g, 0, none⟩) S.length c) S.length (l.map encF) ∧ Below base W w' ∧ W.grownBy w' (some g) := by
  haveI : Inhabited (Fin S.length) := ⟨⟨0, hn0⟩⟩
  have eg : ∀ args w, (callFunc 33 args).run Try.prog w = .ok (.enter 33 args) w := enters_of Try.func33 (by kernel_rfl) rfl
  refine (sortFunc_list l0 hl (scf S w) (scf_swo S w _) 33 #[.pointer (some ⟨gr, 0, none⟩), .pointer (some ⟨gs, 0, none⟩)] g c base W eg h (by omega) (fun x y V hV => ?_)).mono ?_
  · have hV' : Gr.SufBox V S.length w r gw gn gr rb := ⟨hV _ _ h1 hb.bw, hV _ _ h2 hb.bn, hV _ _ h3 hb.br, fun i hi => hV _ _ h4 (hb.bc i hi)⟩
    have k := Gr.sufCmp V S.length w r gw gn gr rb gs hV' (hV _ _ h5 hs) x.val y.val x.isLt y.isLt hw (by omega)
    rw [twice_cmp hr hw0 x.val y.val x.isLt y.isLt] at k
    exact k
  · rintro e w' ⟨rfl, l, p1, p2, p3, p4, p5⟩
    refine ⟨rfl, l, p1, p2.imp fun {a b} hab => ?_, p3, p4, p5⟩
    intro hlt
    have : ltOf (scf S w) b a = true := by unfold ltOf scf; rw [decide_eq_true_eq]; exact (cmpW_neg _ _).2 hlt
    rw [this] at hab; cases hab
end Go.Proofs.Ytacjckocjngfoaa
