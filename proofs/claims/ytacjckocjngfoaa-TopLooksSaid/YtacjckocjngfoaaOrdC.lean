/-
  Copies ('append([]T(nil), xs...)') and calls among the phases of a drawn region. No function of the program is spoken of here.
-/
import Derived.Test.YtacjckocjngfoaaOrd
import Derived.Test.YtacjckocjngfoaaCopy
namespace Go.Proofs.Ytacjckocjngfoaa
open Go.RowKit
set_option linter.unusedVariables false

section
variable {P : Program} {I : World → Prop}
theorem wpRB_append_any {w : World} {ops : Array Oper} {Φ : Act → World → Prop} {r : List Oper} {o : Oper} {a : Act} (hgd : o.guard = none) (s x : Operand) (t : TypeId)
    (ho : o.op = .call { callee := .builtin .append, args := #[s, x], argTypes := #[t, t] })
    (base : Nat) (e : TypeId) (z : Value) (size bytes : Nat) (ht : P.underlying t = some (.slice e)) (hi : (P.info? e).map (fun i => (i.zero, i.size, i.bytes)) = some (some z, size, bytes)) (hzs : z.cells.size = size) (hsz : 0 < size)
    (v : Value) (n : Nat) (xs : List Value) (hs : a.eval s = v) (hown : w.ownsRow base e size v n xs)
    (B : Nat) (A : Option Addr) (m c : Nat) (news : List Value) (hx : a.eval x = .slice A m c) (hr : Reads w B size A m news) (h1 : ∀ u ∈ news, u.oneCell' = true)
    (h63 : n + m ≤ maxLen) (hbytes : (n + m) * bytes ≤ 140737488355328) (hbase : base ≤ w.heap.size)
    (h : ∀ v' w', w'.ownsRow base e size v' (n + m) (xs ++ news) → w.grownBy w' v.ownBlock → (v'.ownBlock = v.ownBlock ∨ v'.ownBlock = some w.heap.size) → I w' ∧ ∀ w2, Below w'.heap.size w' w2 → I w2 → wpRB P ops I Φ r (a.put o.dst v') w2) : wpRB P ops I Φ (o :: r) a w := by
  obtain ⟨i, hi0, hz0, hzz, hzb⟩ := info_parts hi
  obtain ⟨v', w', hrun, h2, h3, h4⟩ := run_append_any (P := P) w base t o.type e i z size bytes ht hi0 hz0 hzz hzb hzs hsz v n xs hown B A m c news hr h1 h63 hbytes hbase
  have hw : Region.wanted o (yielded ops a.tmps) = true := by simp [Region.wanted, hgd]
  unfold wpRB ROp
  rw [if_pos hw]
  unfold execOp
  simp only [ho, resolve, invoke, builtin, Sem.run_bind, Sem.run_pure, Result.andThen_ok, List.map_toArray, List.map_cons, List.map_nil, hs, hx, hrun, RUpon]
  exact h v' w' h2 h3 h4
theorem wpRB_copy {w : World} {ops : Array Oper} {Φ : Act → World → Prop} {r : List Oper} {o : Oper} {a : Act} (hgd : o.guard = none) (x : Operand) (t : TypeId)
    (ho : o.op = .call { callee := .builtin .append, args := #[.const (.slice none 0 0), x], argTypes := #[t, t] })
    (e : TypeId) (z : Value) (size bytes : Nat) (ht : P.underlying t = some (.slice e)) (hi : (P.info? e).map (fun i => (i.zero, i.size, i.bytes)) = some (some z, size, bytes)) (hzs : z.cells.size = size) (hsz : 0 < size)
    (A : Option Addr) (m c : Nat) (news : List Value) (hx : a.eval x = .slice A m c) (hr : Reads w w.heap.size size A m news) (h1 : ∀ u ∈ news, u.oneCell' = true)
    (hbytes : m * bytes ≤ 140737488355328) (hm : m ≤ 1000000000)
    (h : ∀ v' w', w'.ownsRow w.heap.size e size v' m news → Below w.heap.size w w' → I w' ∧ ∀ w2, Below w'.heap.size w' w2 → I w2 → wpRB P ops I Φ r (a.put o.dst v') w2) : wpRB P ops I Φ (o :: r) a w := by
  refine wpRB_append_any hgd (.const (.slice none 0 0)) x t ho w.heap.size e z size bytes ht hi hzs hsz (.slice none 0 0) 0 [] rfl (World.ownsRow_nil _ _ _ _) w.heap.size A m c news hx hr h1 (by unfold maxLen; omega) (by rw [Nat.zero_add]; exact hbytes) (Nat.le_refl _) ?_
  intro v' w' h2 h3 h4
  rw [Nat.zero_add, List.nil_append] at h2
  exact h v' w' h2 ((Below.refl _ _).grown h3 (Nat.le_refl _) (by simp [Value.ownBlock]))
/-- A copy of integers. -/
theorem wpRB_copyInts {w : World} {ops : Array Oper} {Φ : Act → World → Prop} {r : List Oper} {o : Oper} {a : Act} (hgd : o.guard = none) (x : Operand) (t : TypeId)
    (ho : o.op = .call { callee := .builtin .append, args := #[.const (.slice none 0 0), x], argTypes := #[t, t] })
    (e : TypeId) (k : IntKind) (z : Value) (bytes : Nat) (ht : P.underlying t = some (.slice e)) (hi : (P.info? e).map (fun i => (i.zero, i.size, i.bytes)) = some (some z, 1, bytes)) (hzs : z.cells.size = 1)
    (v : Value) (xs : List Int) (hx : a.eval x = v) (hr : Row k w v xs) (hbytes : xs.length * bytes ≤ 140737488355328) (hm : xs.length ≤ 1000000000)
    (h : ∀ v' w', w'.ownsRow w.heap.size e 1 v' xs.length (xs.map (.int k)) → Row k w' v' xs → Below w.heap.size w w' → I w' ∧ ∀ w2, Below w'.heap.size w' w2 → I w2 → wpRB P ops I Φ r (a.put o.dst v') w2) : wpRB P ops I Φ (o :: r) a w := by
  obtain ⟨A, c, rfl, h1, h2, h3, h4⟩ := hr
  refine wpRB_copy hgd x t ho e z 1 bytes ht hi hzs (by decide) A xs.length c (xs.map (.int k)) hx h4 (ints_one xs) hbytes hm ?_
  intro v' w' ho2 hb
  exact h v' w' ho2 (row_of_own ho2 h3) hb
/-- A copy of strings. -/
theorem wpRB_copyStrs {w : World} {ops : Array Oper} {Φ : Act → World → Prop} {r : List Oper} {o : Oper} {a : Act} (hgd : o.guard = none) (x : Operand) (t : TypeId)
    (ho : o.op = .call { callee := .builtin .append, args := #[.const (.slice none 0 0), x], argTypes := #[t, t] })
    (e : TypeId) (z : Value) (bytes : Nat) (ht : P.underlying t = some (.slice e)) (hi : (P.info? e).map (fun i => (i.zero, i.size, i.bytes)) = some (some z, 1, bytes)) (hzs : z.cells.size = 1)
    (v : Value) (xs : List ByteArray) (hx : a.eval x = v) (hr : SRow w v xs) (hbytes : xs.length * bytes ≤ 140737488355328) (hm : xs.length ≤ 1000000000)
    (h : ∀ v' w', w'.ownsRow w.heap.size e 1 v' xs.length (xs.map .string) → SRow w' v' xs → Below w.heap.size w w' → I w' ∧ ∀ w2, Below w'.heap.size w' w2 → I w2 → wpRB P ops I Φ r (a.put o.dst v') w2) : wpRB P ops I Φ (o :: r) a w := by
  obtain ⟨A, c, rfl, h1, h2, h4⟩ := hr
  refine wpRB_copy hgd x t ho e z 1 bytes ht hi hzs (by decide) A xs.length c (xs.map .string) hx h4 (strs_one xs) hbytes hm ?_
  intro v' w' ho2 hb
  exact h v' w' ho2 (SRow.of_own ho2) hb
end
end Go.Proofs.Ytacjckocjngfoaa
