/-
  'append(s, x, y, ..)' in a walk: several elements of several cells, laid just before in a block of their own. No function of the program is spoken of here.
-/
import Derived.Test.YthemlhkdgaeogaaCRow
namespace Go.Proofs.Ythemlhkdgaeogaa
open Go.RowKit
set_option linter.unusedVariables false

theorem wpList_appM {P : Program} {W w : World} {ops : Array Oper} {rest : List Oper} {o : Oper} {a : Act} {Q : Exit → Act → World → Prop} (hgd : o.guard = none) (s x : Operand) (t : TypeId)
    (ho : o.op = .call { callee := .builtin .append, args := #[s, x], argTypes := #[t, t] })
    (base : Nat) (e : TypeId) (z : Value) (size bytes : Nat) (ht : P.underlying t = some (.slice e)) (hi : (P.info? e).map (fun i => (i.zero, i.size, i.bytes)) = some (some z, size, bytes)) (hz1 : z.cells.size = size) (hsz : 0 < size)
    (v : Value) (n : Nat) (xs : List Value) (hs : a.eval s = v) (hown : W.ownsRow base e size v n xs)
    (m : Nat) (cs : List Value) (hcs : cs.length = m * size) (g : Nat) (hx : a.eval x = .slice (some ⟨g, 0, none⟩) m m) (hg0 : g = W.heap.size) (hw : w = W.alloc (.cells cs.toArray e)) (h1 : ∀ u ∈ cs, u.oneCell' = true)
    (hn : (n + m) * bytes ≤ 140737488355328) (hn2 : n + m ≤ 140737488355328) (hbase : base ≤ W.heap.size)
    (h : ∀ v' w', w'.ownsRow base e size v' (n + m) (xs ++ cs) → (∀ B, B ≤ base → ∀ w0, Below B w0 W → Below B w0 w') → W.grownBy w' v.ownBlock → wpList P ops Q rest (a.put o.dst v') w') : wpList P ops Q (o :: rest) a w := by
  subst hg0
  subst hw
  obtain ⟨i, hi0, hz0, hzs, hzb⟩ := info_parts hi
  refine wpList_append_own _ hgd s x t ho base e i z size bytes ht hi0 hz0 hzs hzb hz1 hsz v n xs hs (hown.alloc _) ⟨W.heap.size, 0, none⟩ m m cs hx (by omega) (new_cells W cs e) h1 (by unfold maxLen; omega) hn (by simp; omega) ?_
  intro v' w' h2 h3 h4
  refine h v' w' h2 (fun B hB w0 hb => ?_) ⟨h3.os, h3.tape, h3.output, by have := h3.size; simp at this; omega, fun k hk hne => (h3.block k (by simp; omega) hne).trans (Below.heap_alloc W _ k hk)⟩
  have hsz : B ≤ W.heap.size := Nat.le_trans hB hbase
  exact (hb.alloc hsz _).grown h3 (by simp; omega) (fun g hg => Nat.le_trans hB (hown.lt g hg).1)
end Go.Proofs.Ythemlhkdgaeogaa
