/-
  'append([]T(nil), xs...)' in a walk, and a slice cut from one that reads as a list of integers. No function of the program is spoken of here.
-/
import Derived.Test.YtpjpckhmjonehaaDoorOpen
import Derived.Test.YtpjpckhmjonehaaDoorCRow
namespace Go.Proofs.YtpjpckhmjonehaaDoor
open Go.RowKit
set_option linter.unusedVariables false

theorem ints_one {k : IntKind} (xs : List Int) : ∀ u ∈ xs.map (Value.int k), u.oneCell' = true := by
  intro u hu
  obtain ⟨x, _, rfl⟩ := List.mem_map.1 hu
  rfl
theorem strs_one (xs : List ByteArray) : ∀ u ∈ xs.map Value.string, u.oneCell' = true := by
  intro u hu
  obtain ⟨x, _, rfl⟩ := List.mem_map.1 hu
  rfl
section
variable {P : Program}
/-- A copy of what reads as cells. -/
theorem wpList_copy {w : World} {ops : Array Oper} {rest : List Oper} {o : Oper} {a : Act} {Q : Exit → Act → World → Prop} (hgd : o.guard = none) (x : Operand) (t : TypeId)
    (ho : o.op = .call { callee := .builtin .append, args := #[.const (.slice none 0 0), x], argTypes := #[t, t] })
    (e : TypeId) (z : Value) (size bytes : Nat) (ht : P.underlying t = some (.slice e)) (hi : (P.info? e).map (fun i => (i.zero, i.size, i.bytes)) = some (some z, size, bytes)) (hzs : z.cells.size = size) (hsz : 0 < size)
    (A : Option Addr) (m c : Nat) (news : List Value) (hx : a.eval x = .slice A m c) (hr : Reads w w.heap.size size A m news) (h1 : ∀ u ∈ news, u.oneCell' = true)
    (hbytes : m * bytes ≤ 140737488355328) (hm : m ≤ 1000000000)
    (h : ∀ v' w', w'.ownsRow w.heap.size e size v' m news → Below w.heap.size w w' → wpList P ops Q rest (a.put o.dst v') w') : wpList P ops Q (o :: rest) a w := by
  obtain ⟨i, hi0, hz0, hzz, hzb⟩ := info_parts hi
  refine wpList_append_any w hgd (.const (.slice none 0 0)) x t ho w.heap.size e i z size bytes ht hi0 hz0 hzz hzb hzs hsz (.slice none 0 0) 0 [] rfl (World.ownsRow_nil _ _ _ _) w.heap.size A m c news hx hr h1 (by unfold maxLen; omega) (by rw [Nat.zero_add]; exact hbytes) (Nat.le_refl _) ?_
  intro v' w' h2 h3 h4
  rw [Nat.zero_add, List.nil_append] at h2
  exact h v' w' h2 ((Below.refl _ _).grown h3 (Nat.le_refl _) (by simp [Value.ownBlock]))
/-- A copy of integers. -/
theorem wpList_copyInts {w : World} {ops : Array Oper} {rest : List Oper} {o : Oper} {a : Act} {Q : Exit → Act → World → Prop} (hgd : o.guard = none) (x : Operand) (t : TypeId)
    (ho : o.op = .call { callee := .builtin .append, args := #[.const (.slice none 0 0), x], argTypes := #[t, t] })
    (e : TypeId) (k : IntKind) (z : Value) (bytes : Nat) (ht : P.underlying t = some (.slice e)) (hi : (P.info? e).map (fun i => (i.zero, i.size, i.bytes)) = some (some z, 1, bytes)) (hzs : z.cells.size = 1)
    (v : Value) (xs : List Int) (hx : a.eval x = v) (hr : Row k w v xs) (hbytes : xs.length * bytes ≤ 140737488355328) (hm : xs.length ≤ 1000000000)
    (h : ∀ v' w', w'.ownsRow w.heap.size e 1 v' xs.length (xs.map (.int k)) → Row k w' v' xs → Below w.heap.size w w' → wpList P ops Q rest (a.put o.dst v') w') : wpList P ops Q (o :: rest) a w := by
  obtain ⟨A, c, rfl, h1, h2, h3, h4⟩ := hr
  refine wpList_copy hgd x t ho e z 1 bytes ht hi hzs (by decide) A xs.length c (xs.map (.int k)) hx h4 (ints_one xs) hbytes hm ?_
  intro v' w' ho2 hb
  exact h v' w' ho2 (row_of_own ho2 h3) hb
/-- A copy of strings. -/
theorem wpList_copyStrs {w : World} {ops : Array Oper} {rest : List Oper} {o : Oper} {a : Act} {Q : Exit → Act → World → Prop} (hgd : o.guard = none) (x : Operand) (t : TypeId)
    (ho : o.op = .call { callee := .builtin .append, args := #[.const (.slice none 0 0), x], argTypes := #[t, t] })
    (e : TypeId) (z : Value) (bytes : Nat) (ht : P.underlying t = some (.slice e)) (hi : (P.info? e).map (fun i => (i.zero, i.size, i.bytes)) = some (some z, 1, bytes)) (hzs : z.cells.size = 1)
    (v : Value) (xs : List ByteArray) (hx : a.eval x = v) (hr : SRow w v xs) (hbytes : xs.length * bytes ≤ 140737488355328) (hm : xs.length ≤ 1000000000)
    (h : ∀ v' w', w'.ownsRow w.heap.size e 1 v' xs.length (xs.map .string) → SRow w' v' xs → Below w.heap.size w w' → wpList P ops Q rest (a.put o.dst v') w') : wpList P ops Q (o :: rest) a w := by
  obtain ⟨A, c, rfl, h1, h2, h4⟩ := hr
  refine wpList_copy hgd x t ho e z 1 bytes ht hi hzs (by decide) A xs.length c (xs.map .string) hx h4 (strs_one xs) hbytes hm ?_
  intro v' w' ho2 hb
  exact h v' w' ho2 (SRow.of_own ho2) hb
/-- A copy of elements of several cells. -/
theorem wpList_copyC {α : Type} {sz : Nat} {cl : α → List Value} {w : World} {ops : Array Oper} {rest : List Oper} {o : Oper} {a : Act} {Q : Exit → Act → World → Prop} (hcl : ∀ x, (cl x).length = sz) (hc1 : ∀ x, ∀ u ∈ cl x, u.oneCell' = true) (hgd : o.guard = none) (x : Operand) (t : TypeId)
    (ho : o.op = .call { callee := .builtin .append, args := #[.const (.slice none 0 0), x], argTypes := #[t, t] })
    (e : TypeId) (z : Value) (bytes : Nat) (ht : P.underlying t = some (.slice e)) (hi : (P.info? e).map (fun i => (i.zero, i.size, i.bytes)) = some (some z, sz, bytes)) (hzs : z.cells.size = sz) (hsz : 0 < sz)
    (v : Value) (xs : List α) (hx : a.eval x = v) (hr : CRow sz cl w v xs) (hbytes : xs.length * bytes ≤ 140737488355328) (hm : xs.length ≤ 1000000000)
    (h : ∀ v' w', w'.ownsRow w.heap.size e sz v' xs.length (cellsOf cl xs) → CRow sz cl w' v' xs → Below w.heap.size w w' → wpList P ops Q rest (a.put o.dst v') w') : wpList P ops Q (o :: rest) a w := by
  obtain ⟨A, c, rfl, h1, h2, h4⟩ := hr
  refine wpList_copy hgd x t ho e z sz bytes ht hi hzs hsz A xs.length c (cellsOf cl xs) hx h4 (cellsOf_oneCell hc1 xs) hbytes hm ?_
  intro v' w' ho2 hb
  exact h v' w' ho2 (CRow.of_own hcl ho2) hb
end
theorem own_slice {w : World} {base : Nat} {e : TypeId} {size n : Nat} {v : Value} {xs : List Value} (h : w.ownsRow base e size v n xs) : ∃ A c, v = .slice A n c ∧ n ≤ c ∧ c ≤ maxLen := by
  rcases h.2 with ⟨rfl, rfl⟩ | ⟨g, cap, cur, rfl, _, _, h1, h2, _⟩
  · exact ⟨_, _, rfl, Nat.le_refl _, by decide⟩
  · exact ⟨_, _, rfl, h1, h2⟩
theorem Row.drop {k : IntKind} {w : World} {b o c n : Nat} {xs : List Int} (h : Row k w (.slice (some ⟨b, o, none⟩) n c) xs) {y : Nat} (hy : y < c) (hy2 : y ≤ xs.length) : Row k w (.slice (some ⟨b, o + y, none⟩) (n - y) (c - y)) (xs.drop y) := by
  obtain ⟨A', c', hv, hl, hc, hw, hr⟩ := h
  injection hv with h1 h2 h3
  subst h1; subst h3; subst h2
  have hcut := hr.cut (k := y) (cap := c) hy2 hl
  rw [if_neg (by omega)] at hcut
  simp only [Option.map_some, add_plain, Nat.mul_one] at hcut
  refine ⟨_, _, by rw [List.length_drop], by rw [List.length_drop]; omega, by omega, fun x hx => hw x (List.mem_of_mem_drop hx), ?_⟩
  rw [List.length_drop, List.map_drop]
  exact hcut
theorem Row.take {k : IntKind} {w : World} {A : Option Addr} {c n : Nat} {xs : List Int} (h : Row k w (.slice A n c) xs) {y : Nat} (hy2 : y ≤ xs.length) : Row k w (.slice A y c) (xs.take y) := by
  obtain ⟨A', c', hv, hl, hc, hw, hr⟩ := h
  injection hv with h1 h2 h3
  subst h1; subst h3; subst h2
  have hlen : (xs.take y).length = y := by rw [List.length_take, Nat.min_eq_left hy2]
  refine ⟨A, c, by rw [hlen], by omega, hc, fun x hx => hw x (List.mem_of_mem_take hx), ⟨by simp, fun hp => ?_⟩⟩
  rw [hlen] at hp
  obtain ⟨ad, ha, hb, hcell⟩ := hr.2 (by omega)
  refine ⟨ad, ha, hb, fun j u hu => hcell j u ?_⟩
  rw [List.map_take, List.getElem?_take] at hu
  split at hu
  · exact hu
  · simp at hu
end Go.Proofs.YtpjpckhmjonehaaDoor
