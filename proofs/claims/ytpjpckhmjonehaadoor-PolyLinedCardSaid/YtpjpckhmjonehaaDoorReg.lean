/-
  A region that draws its order, whose operations only read and whose calls may make memory but change nothing that was there: one walk of the lexical order serves every order. The worlds that may come up are told as an indexed family 'F'. No function of the program is spoken of here.
-/
import Derived.Test.YtpjpckhmjonehaaDoorBase
import Derived.BigQuiet
import Derived.Deep.QuietTactic
namespace Go.Proofs.YtpjpckhmjonehaaDoor
open Go.RowKit
set_option linter.unusedVariables false

theorem wp_region_below {P : Program} {id : Nat} {Q : Exit → Act → World → Prop} {a : Act} {w : World} {l : List Oper} (hm : P.follows .mixedOrders = true) (hB : Region.lexB .any l.toArray = true)
    (h : ∀ (ι : Type) (F : ι → World), Nonempty ι → (∀ i, Below w.heap.size w (F i)) → (∀ i w1, Below (F i).heap.size (F i) w1 → ∃ j, w1 = F j) →
      wpQuiet P l.toArray (fun w' => ∃ i, w' = F i) (fun a' => ∀ w', (∃ i, w' = F i) → Q .normal a' w') l a) : (Code.region id l.toArray true).wp P Q a w := by
  have h0 := h {w' : World // Below w.heap.size w w'} Subtype.val ⟨⟨w, Below.refl _ _⟩⟩ (fun i => i.2) (fun i w1 hb => ⟨⟨w1, bstep i.2 hb⟩, rfl⟩)
  exact wp_region_quiet (C := fun w' => ∃ i : {w' : World // Below w.heap.size w w'}, w' = i.1) hm hB ⟨⟨_, below_drewN (Below.refl _ _) 1⟩, rfl⟩ (by simpa using h0)
theorem two_set {W : World} {g h i j : Nat} {a b u u' : Value} (hg : g ≠ h) (hc : W.cell? ⟨g, 0, none⟩ = some a ∧ W.cell? ⟨g, 1, none⟩ = some b) :
    ((W.setCell ⟨h, i, none⟩ u).setCell ⟨h, j, none⟩ u').cell? ⟨g, 0, none⟩ = some a ∧ ((W.setCell ⟨h, i, none⟩ u).setCell ⟨h, j, none⟩ u').cell? ⟨g, 1, none⟩ = some b := by
  have n : ∀ o k : Nat, (⟨h, o, none⟩ : Addr) ≠ ⟨g, k, none⟩ := fun o k e => hg (by injection e with e1; exact e1.symm)
  rw [World.cell?_setCell_other _ _ _ _ (n _ _), World.cell?_setCell_other _ _ _ _ (n _ _), World.cell?_setCell_other _ _ _ _ (n _ _), World.cell?_setCell_other _ _ _ _ (n _ _)]
  exact hc
theorem two_alloc {W : World} {g : Nat} {a b : Value} (hg : g < W.heap.size) (hc : W.cell? ⟨g, 0, none⟩ = some a ∧ W.cell? ⟨g, 1, none⟩ = some b) (o : Obj) :
    (W.alloc o).cell? ⟨g, 0, none⟩ = some a ∧ (W.alloc o).cell? ⟨g, 1, none⟩ = some b := by
  rw [World.cell?_alloc_lt _ _ _ (by exact hg), World.cell?_alloc_lt _ _ _ (by exact hg)]
  exact hc
theorem two_new (w : World) (a b : Value) (t : TypeId) : (w.alloc (.cells #[a, b] t)).cell? ⟨w.heap.size, 0, none⟩ = some a ∧ (w.alloc (.cells #[a, b] t)).cell? ⟨w.heap.size, 1, none⟩ = some b := by
  have hk := Blk.new w t #[a, b]
  exact ⟨by rw [hk.cell]; rfl, by rw [hk.cell]; rfl⟩
theorem three_new (w : World) (a b c : Value) (t : TypeId) : (w.alloc (.cells #[a, b, c] t)).cell? ⟨w.heap.size, 0, none⟩ = some a ∧ (w.alloc (.cells #[a, b, c] t)).cell? ⟨w.heap.size, 1, none⟩ = some b ∧ (w.alloc (.cells #[a, b, c] t)).cell? ⟨w.heap.size, 2, none⟩ = some c := by
  have hk := Blk.new w t #[a, b, c]
  exact ⟨by rw [hk.cell]; rfl, by rw [hk.cell]; rfl, by rw [hk.cell]; rfl⟩
/-- Two cells of a block laid since W, in a world that has only grown since W. -/
def TwoAt (W wc : World) (g : Nat) (a b : Value) : Prop := g < wc.heap.size ∧ W.heap.size ≤ g ∧ (wc.cell? ⟨g, 0, none⟩ = some a ∧ wc.cell? ⟨g, 1, none⟩ = some b) ∧ Below W.heap.size W wc
theorem two_at_new {W w9 : World} (hb : Below W.heap.size W w9) (a b : Value) (t : TypeId) : TwoAt W (w9.alloc (.cells #[a, b] t)) w9.heap.size a b := by
  have hk := Blk.new w9 t #[a, b]
  exact ⟨hk.lt, hb.size, ⟨by rw [hk.cell]; rfl, by rw [hk.cell]; rfl⟩, hb.alloc hb.size _⟩
theorem two_at_set {W w9 : World} {g : Nat} {u0 u1 : Value} (hb : Below W.heap.size W w9) (hg : W.heap.size ≤ g) (h : w9.cell? ⟨g, 0, none⟩ = some u0 ∧ w9.cell? ⟨g, 1, none⟩ = some u1) (a b : Value) :
    TwoAt W ((w9.setCell ⟨g, 0, none⟩ a).setCell ⟨g, 1, none⟩ b) g a b := by
  have hlt : g < w9.heap.size := block_lt_of_cell (a := ⟨g, 0, none⟩) h.1
  refine ⟨by simpa using hlt, hg, ⟨?_, ?_⟩, (hb.setCell hg _).setCell hg _⟩
  · rw [World.cell?_setCell_other _ _ _ _ (by simp)]
    obtain ⟨v', hv⟩ := cell?_setCell_some (w := w9) (p := ⟨g, 0, none⟩) (x := a) (q := ⟨g, 0, none⟩) (v := u0) h.1
    simp [go_sem, h.1]
  · have h2 : (w9.setCell ⟨g, 0, none⟩ a).cell? ⟨g, 1, none⟩ = some u1 := by rw [World.cell?_setCell_other _ _ _ _ (by simp)]; exact h.2
    simp [go_sem, h2]
theorem two_store {w wr w3 : World} {g h : Nat} {T : TypeId} {x y u v : Value} (B : Blk wr g T #[x, y]) (B' : Blk wr h T #[u, v]) (hne : h ≠ g) (hb : Below wr.heap.size wr w3) (k : Below w.heap.size w wr) (q : w.heap.size ≤ g) (x' y' : Value) (o : Obj) :
    Blk (((w3.setCell ⟨g, 0, none⟩ x').setCell ⟨g, 1, none⟩ y').alloc o) g T #[x', y'] ∧ Blk (((w3.setCell ⟨g, 0, none⟩ x').setCell ⟨g, 1, none⟩ y').alloc o) h T #[u, v] ∧ Below w.heap.size w (((w3.setCell ⟨g, 0, none⟩ x').setCell ⟨g, 1, none⟩ y').alloc o) := by
  have k3 := bstep k hb
  exact ⟨(((B.below hb B.lt).set_ 0 x').set_ 1 y').alloc o, (((B'.below hb B'.lt).far (p := ⟨g, 0, none⟩) hne x').far (p := ⟨g, 1, none⟩) hne y').alloc o, ((k3.setCell (p := ⟨g, 0, none⟩) q x').setCell (p := ⟨g, 1, none⟩) q y').alloc (by simpa using k3.size) o⟩
theorem below_drew {W w : World} (h : Below W.drew.heap.size W.drew w) : Below W.heap.size W w := ⟨h.os, h.tape, h.output, h.size, h.block⟩
theorem drew_below (W : World) : Below W.heap.size W W.drew := below_drewN (Below.refl _ _) 1
/-- Three cells of a block, which lies in the world. -/
def Three (w : World) (g : Nat) (a b c : Value) : Prop := g < w.heap.size ∧ w.cell? ⟨g, 0, none⟩ = some a ∧ w.cell? ⟨g, 1, none⟩ = some b ∧ w.cell? ⟨g, 2, none⟩ = some c
theorem Three.later {w w' : World} {g : Nat} {a b c : Value} (h : Three w g a b c) (hb : Below w.heap.size w w') : Three w' g a b c :=
  ⟨Nat.lt_of_lt_of_le h.1 hb.size, three_below hb h.1 h.2⟩
theorem Three.alloc {w : World} {g : Nat} {a b c : Value} (h : Three w g a b c) (o : Obj) : Three (w.alloc o) g a b c := h.later ((Below.refl _ _).alloc (Nat.le_refl _) o)
theorem Three.new (w : World) (a b c : Value) (t : TypeId) : Three (w.alloc (.cells #[a, b, c] t)) w.heap.size a b c := ⟨by simp, three_new w a b c t⟩
/-- Two cells of a block, which lies in the world. -/
def Two (w : World) (g : Nat) (a b : Value) : Prop := g < w.heap.size ∧ w.cell? ⟨g, 0, none⟩ = some a ∧ w.cell? ⟨g, 1, none⟩ = some b
theorem Two.later {w w' : World} {g : Nat} {a b : Value} (h : Two w g a b) (hb : Below w.heap.size w w') : Two w' g a b :=
  ⟨Nat.lt_of_lt_of_le h.1 hb.size, two_below hb h.1 h.2⟩
theorem Two.alloc {w : World} {g : Nat} {a b : Value} (h : Two w g a b) (o : Obj) : Two (w.alloc o) g a b := h.later ((Below.refl _ _).alloc (Nat.le_refl _) o)
theorem Two.new (w : World) (a b : Value) (t : TypeId) : Two (w.alloc (.cells #[a, b] t)) w.heap.size a b := ⟨by simp, two_new w a b t⟩
/-- One cell of a block, which lies in the world. -/
def One (w : World) (g : Nat) (a : Value) : Prop := g < w.heap.size ∧ w.cell? ⟨g, 0, none⟩ = some a
theorem One.later {w w' : World} {g : Nat} {a : Value} (h : One w g a) (hb : Below w.heap.size w w') : One w' g a :=
  ⟨Nat.lt_of_lt_of_le h.1 hb.size, (hb.cell (p := ⟨g, 0, none⟩) h.1).trans h.2⟩
theorem One.alloc {w : World} {g : Nat} {a : Value} (h : One w g a) (o : Obj) : One (w.alloc o) g a := h.later ((Below.refl _ _).alloc (Nat.le_refl _) o)
theorem One.new (w : World) (a : Value) (t : TypeId) : One (w.alloc (.cells #[a] t)) w.heap.size a := ⟨by simp, by rw [(Blk.new w t #[a]).cell]; rfl⟩
theorem Three.under {B : Nat} {w w' : World} {g : Nat} {a b c : Value} (h : Three w g a b c) (hg : g < B) (hb : Below B w w') : Three w' g a b c :=
  ⟨Nat.lt_of_lt_of_le h.1 hb.size, (hb.cell (p := ⟨g, 0, none⟩) hg).trans h.2.1, (hb.cell (p := ⟨g, 1, none⟩) hg).trans h.2.2.1, (hb.cell (p := ⟨g, 2, none⟩) hg).trans h.2.2.2⟩
theorem Two.under {B : Nat} {w w' : World} {g : Nat} {a b : Value} (h : Two w g a b) (hg : g < B) (hb : Below B w w') : Two w' g a b :=
  ⟨Nat.lt_of_lt_of_le h.1 hb.size, (hb.cell (p := ⟨g, 0, none⟩) hg).trans h.2.1, (hb.cell (p := ⟨g, 1, none⟩) hg).trans h.2.2⟩
theorem One.under {B : Nat} {w w' : World} {g : Nat} {a : Value} (h : One w g a) (hg : g < B) (hb : Below B w w') : One w' g a :=
  ⟨Nat.lt_of_lt_of_le h.1 hb.size, (hb.cell (p := ⟨g, 0, none⟩) hg).trans h.2⟩
end Go.Proofs.YtpjpckhmjonehaaDoor
