/-
  A slice of the call's own that may begin anywhere in its block ('s[1:]', then append): what it reads as, and how append, cutting and storing go on. No function of the program is spoken of here.
-/
import Derived.Test.YtacjckocjngfoaaCRow
import Derived.Test.YtacjckocjngfoaaMix
namespace Go.Proofs.Ytacjckocjngfoaa
open Go.RowKit
set_option linter.unusedVariables false

def OffRow (w : World) (base : Nat) (e : TypeId) (size : Nat) (v : Value) (n : Nat) (xs : List Value) : Prop :=
  xs.length = n * size ∧ ((n = 0 ∧ ∃ A, v = .slice A 0 0) ∨
   ∃ g o cap cur, v = .slice (some ⟨g, o, none⟩) n cap ∧ 0 < cap ∧ base ≤ g ∧ w.heap[g]? = some (.cells cur e (0, 0)) ∧ n ≤ cap ∧ cap ≤ maxLen ∧ o + cap * size ≤ cur.size ∧ (cur.toList.drop o).take (n * size) = xs)
/-- The block that an append may write: that of a slice with some capacity. -/
def offBlock : Value → Option Nat
  | .slice (some a) _ (_ + 1) => some a.block
  | _ => none
theorem offBlock_some (a : Addr) (n cap : Nat) (h : 0 < cap) : offBlock (.slice (some a) n cap) = some a.block := by
  obtain ⟨c, rfl⟩ : ∃ c, cap = c + 1 := ⟨cap - 1, by omega⟩
  rfl

section
variable {w w' : World} {base size n : Nat} {e : TypeId} {v : Value} {xs : List Value}
theorem OffRow.nil_ (w : World) (base : Nat) (e : TypeId) (size : Nat) : OffRow w base e size (.slice none 0 0) 0 [] := ⟨by simp, .inl ⟨rfl, none, rfl⟩⟩
theorem OffRow.of_own (h : w.ownsRow base e size v n xs) : OffRow w base e size v n xs := by
  refine ⟨h.1, ?_⟩
  rcases h.2 with ⟨rfl, rfl⟩ | ⟨g, cap, cur, rfl, hb, hh, hnc, hcm, hs, ht⟩
  · exact .inl ⟨rfl, _, rfl⟩
  · rcases Nat.eq_zero_or_pos cap with h0 | h0
    · subst h0
      obtain rfl : n = 0 := by omega
      exact .inl ⟨rfl, _, rfl⟩
    · exact .inr ⟨g, 0, cap, cur, rfl, h0, hb, hh, hnc, hcm, by omega, by simpa using ht⟩
theorem OffRow.lt (h : OffRow w base e size v n xs) : ∀ k, offBlock v = some k → base ≤ k ∧ k < w.heap.size := by
  intro k hk
  rcases h.2 with ⟨_, A, rfl⟩ | ⟨g, o, cap, cur, rfl, h0, hb, hh, _⟩
  · cases A <;> simp [offBlock] at hk
  · rw [offBlock_some _ _ _ h0] at hk
    injection hk with hk
    simp only at hk
    subst hk
    exact ⟨hb, (Array.getElem?_eq_some_iff.1 hh).1⟩
theorem OffRow.kept {row : Option Nat} (h : OffRow w base e size v n xs) (hg : w.grownBy w' row) (hne : offBlock v = none ∨ offBlock v ≠ row) : OffRow w' base e size v n xs := by
  refine ⟨h.1, ?_⟩
  rcases h.2 with hn | ⟨g, o, cap, cur, rfl, h0, hb, hh, rest⟩
  · exact .inl hn
  · refine .inr ⟨g, o, cap, cur, rfl, h0, hb, ?_, rest⟩
    rw [offBlock_some _ _ _ h0] at hne
    rw [hg.block g (Array.getElem?_eq_some_iff.1 hh).1 (by simpa using hne)]
    exact hh
theorem OffRow.below (h : OffRow w base e size v n xs) (hb : Below w.heap.size w w') : OffRow w' base e size v n xs :=
  h.kept (grown_of_below hb none) (by rcases offBlock v with _ | g <;> simp)
theorem OffRow.alloc (h : OffRow w base e size v n xs) (o : Obj) : OffRow (w.alloc o) base e size v n xs := h.kept (World.grownBy_alloc w o none) (by cases hv : offBlock v <;> simp)
theorem OffRow.far (h : OffRow w base e size v n xs) (p : Addr) (u : Value) (hne : offBlock v ≠ some p.block) : OffRow (w.setCell p u) base e size v n xs :=
  h.kept (grown_set w p u) (.inr hne)
theorem OffRow.drew (h : OffRow w base e size v n xs) : OffRow w.drew base e size v n xs := h
theorem OffRow.drewN (h : OffRow w base e size v n xs) (k : Nat) : OffRow (w.drewN k) base e size v n xs := h
/-- Where it has an element, its address and its cells. -/
theorem OffRow.form (h : OffRow w base e size v n xs) (hn : 0 < n) : ∃ g o cap, v = .slice (some ⟨g, o, none⟩) n cap ∧ base ≤ g ∧ g < w.heap.size ∧ n ≤ cap ∧ cap ≤ maxLen ∧ offBlock v = some g ∧
    (∀ j u, xs[j]? = some u → w.cell? ⟨g, o + j, none⟩ = some u) ∧ (∀ k, w.frozen? ⟨g, k, none⟩ = false) := by
  rcases h.2 with ⟨h0, _⟩ | ⟨g, o, cap, cur, rfl, h0, hb, hh, hnc, hcm, hs, ht⟩
  · omega
  · refine ⟨g, o, cap, rfl, hb, (Array.getElem?_eq_some_iff.1 hh).1, hnc, hcm, offBlock_some _ _ _ h0, fun j u hu => ?_, fun k => by simp [World.frozen?, hh]⟩
    rw [cell_of_row w g (o + j) cur e (0, 0) hh]
    rw [← ht, List.getElem?_take] at hu
    split at hu
    · rw [List.getElem?_drop] at hu; simpa using hu
    · cases hu
/-- 's[k:]'. -/
theorem OffRow.drop {A : Option Addr} {cap k : Nat} (h : OffRow w base e size (.slice A n cap) n xs) (hk : k ≤ n) :
    OffRow w base e size (.slice (if cap = k then A else A.map (·.add (k * size))) (n - k) (cap - k)) (n - k) (xs.drop (k * size)) := by
  refine ⟨by rw [List.length_drop, h.1, Nat.sub_mul], ?_⟩
  rcases h.2 with ⟨h0, A', hv⟩ | ⟨g, o, cap', cur, hv, h0, hb, hh, hnc, hcm, hs, ht⟩
  · injection hv with h1 h2 h3
    subst h0; subst h3
    exact .inl ⟨by omega, A, by rw [if_pos (by omega)]; congr 1 <;> omega⟩
  · injection hv with h1 h2 h3
    subst h1; subst h3
    by_cases hc : cap = k
    · rw [if_pos hc]; exact .inl ⟨by omega, _, by congr 1 <;> omega⟩
    · rw [if_neg hc]
      refine .inr ⟨g, o + k * size, cap - k, cur, ?_, by omega, hb, hh, by omega, by omega, ?_, ?_⟩
      · simp only [Option.map_some, add_plain]
      · rw [Nat.sub_mul]
        have : k * size ≤ cap * size := Nat.mul_le_mul_right _ (by omega)
        omega
      · rw [← ht, List.drop_take, List.drop_drop, Nat.sub_mul]
/-- 's[:k]'. -/
theorem OffRow.take {A : Option Addr} {cap k : Nat} (h : OffRow w base e size (.slice A n cap) n xs) (hk : k ≤ n) :
    OffRow w base e size (.slice A k cap) k (xs.take (k * size)) := by
  have hm : k * size ≤ n * size := Nat.mul_le_mul_right _ hk
  refine ⟨by rw [List.length_take, h.1]; omega, ?_⟩
  rcases h.2 with ⟨h0, A', hv⟩ | ⟨g, o, cap', cur, hv, h0, hb, hh, hnc, hcm, hs, ht⟩
  · injection hv with h1 h2 h3
    subst h0; subst h3
    exact .inl ⟨by omega, A, by congr 1; omega⟩
  · injection hv with h1 h2 h3
    subst h1; subst h3
    exact .inr ⟨g, o, cap, cur, rfl, h0, hb, hh, by omega, hcm, hs, by rw [← ht, List.take_take, Nat.min_eq_left hm]⟩
/-- A store to one of its cells. -/
theorem OffRow.set {g o cap : Nat} (h : OffRow w base e size (.slice (some ⟨g, o, none⟩) n cap) n xs) {j : Nat} (hj : j < n * size) (u : Value) :
    OffRow (w.setCell ⟨g, o + j, none⟩ u) base e size (.slice (some ⟨g, o, none⟩) n cap) n (xs.set j u) := by
  refine ⟨by rw [List.length_set]; exact h.1, ?_⟩
  rcases h.2 with ⟨h0, _⟩ | ⟨g', o', cap', cur, hv, h0, hb, hh, hnc, hcm, hs, ht⟩
  · subst h0; simp at hj
  · injection hv with h1 h2 h3
    injection h1 with h1
    injection h1 with h1 h4
    subst h1; subst h3; subst h4
    refine .inr ⟨g, o, cap, cur.setIfInBounds (o + j) u, rfl, h0, hb, ?_, hnc, hcm, by simpa using hs, ?_⟩
    · simp [World.setCell, Array.getElem?_modify, hh]
    · rw [Array.toList_setIfInBounds, List.drop_set, if_neg (by omega), Nat.add_sub_cancel_left, List.take_set, ht]
end

section
variable {P : Program} (w : World)
theorem run_append_off (base : Nat) (t ty e : TypeId) (i : TypeInfo) (z : Value) (size bytes : Nat) (ht : P.underlying t = some (.slice e)) (hi : P.info? e = some i) (hz : i.zero = some z)
    (hsize : i.size = size) (hby : i.bytes = bytes) (hzs : z.cells.size = size) (hsz : 0 < size)
    (v : Value) (n : Nat) (xs : List Value) (hown : OffRow w base e size v n xs)
    (a : Addr) (m c : Nat) (news : List Value) (hl : news.length = m * size) (hnews : ∀ j u, news[j]? = some u → w.cell? (a.add j) = some u) (h1 : ∀ u ∈ news, u.oneCell' = true) (hm : 0 < m)
    (h63 : n + m ≤ maxLen) (hbytes : (n + m) * bytes ≤ 140737488355328) (hbase : base ≤ w.heap.size) :
    ∃ v' w', (Builtin.append_ #[t, t] ty #[v, .slice (some a) m c]).run P w = .ok v' w' ∧ OffRow w' base e size v' (n + m) (xs ++ news) ∧ w.grownBy w' (offBlock v) ∧
      (offBlock v' = offBlock v ∨ offBlock v' = some w.heap.size) := by
  have hlen : (xs ++ news).length = (n + m) * size := by rw [List.length_append, hown.1, hl, Nat.add_mul]
  have fin : ∀ v' w', w'.ownsRow w.heap.size e size v' (n + m) (xs ++ news) → w.grownBy w' none → OffRow w' base e size v' (n + m) (xs ++ news) ∧ w.grownBy w' (offBlock v) ∧ (offBlock v' = offBlock v ∨ w.heap.size ≤ (offBlock v').getD w.heap.size) := by
    intro v' w' ho hg
    refine ⟨OffRow.of_own (own_mono ho hbase), ⟨hg.os, hg.tape, hg.output, hg.size, fun k hk _ => hg.block k hk (by simp)⟩, .inr ?_⟩
    cases hb : offBlock v' with
    | none => simp
    | some g => simpa using ((OffRow.of_own ho).lt g hb).1
  subst hsize
  subst hby
  rcases hown.2 with ⟨rfl, A, rfl⟩ | ⟨g, o, cap, cur, rfl, h0, hb, hh, hnc, hcm, hs, htk⟩
  · obtain rfl : xs = [] := List.eq_nil_of_length_eq_zero (by simpa using hown.1)
    have hge := grownCap_ge w (0 + m) 0 e
    have hcap : grownCap w (0 + m) 0 e ≤ maxLen := grownCap_le_maxLen w (0 + m) 0 e h63
    have key : ∀ (cells : Array Value) , cells.toList.take ((0 + m) * i.size) = news → cells.size = grownCap w (0 + m) 0 e * i.size →
        OffRow (w.drew.alloc (.cells cells e)) base e i.size (.slice (some ⟨w.heap.size, 0, none⟩) (0 + m) (grownCap w (0 + m) 0 e)) (0 + m) ([] ++ news) ∧ w.grownBy (w.drew.alloc (.cells cells e)) (offBlock (.slice A 0 0)) ∧
        offBlock (.slice (some ⟨w.heap.size, 0, none⟩) (0 + m) (grownCap w (0 + m) 0 e)) = some w.heap.size := by
      intro cells hc1 hc2
      refine ⟨⟨hlen, .inr ⟨w.heap.size, 0, _, cells, rfl, by omega, hbase, heap_alloc_new w.drew _, hge, hcap, by omega, by simpa using hc1⟩⟩, ⟨rfl, rfl, rfl, by simp, fun k hk _ => Below.heap_alloc w.drew _ k hk⟩, offBlock_some _ _ _ (by omega)⟩
    cases A with
    | none =>
      have hr := run_append_nil (P := P) w t ty e i z ht hi hz a m c news hl hnews (by omega) (by unfold maxLen at h63; omega) (by rw [Nat.zero_add] at hbytes; omega)
      obtain ⟨k1, k2, k3⟩ := key (news.toArray ++ Builtin.zeroCells z.cells (grownCap w m 0 e - m)) (by
        simp only [Array.toList_append, Nat.zero_add, ← hl]; exact List.take_left) (by
        simp only [Array.size_append, List.size_toArray, size_zeroCells, hzs, hl, Nat.zero_add, ← Nat.add_mul] at hge ⊢
        congr 1; omega)
      simp only [Nat.zero_add] at k1 k2 k3 ⊢
      exact ⟨_, _, hr, k1, k2, .inr k3⟩
    | some b =>
      have hr := run_append_grow (P := P) w t ty e i z ht hi hz b 0 0 [] (by simp) (by simp) a m c news hl hnews (by omega) (by unfold maxLen at h63; omega) (growslice_fits (by omega) hbytes)
      obtain ⟨k1, k2, k3⟩ := key (([] : List Value).toArray ++ news.toArray ++ Builtin.zeroCells z.cells (grownCap w (0 + m) 0 e - (0 + m))) (by
        simp only [Array.toList_append, List.nil_append, Nat.zero_add, ← hl]; exact List.take_left) (by
        simp only [Array.size_append, List.size_toArray, size_zeroCells, hzs, hl, List.length_nil, Nat.zero_add, ← Nat.add_mul] at hge ⊢
        congr 1; omega)
      exact ⟨_, _, hr, k1, k2, .inr k3⟩
  · have hmul : (n + m) * i.size ≤ cap * i.size ∨ cap < n + m := by
      rcases Nat.lt_or_ge cap (n + m) with h | h
      · exact .inr h
      · exact .inl (Nat.mul_le_mul_right _ h)
    rcases Nat.lt_or_ge cap (n + m) with hroom | hroom
    · have holds : ∀ j u, xs[j]? = some u → w.cell? ((⟨g, o, none⟩ : Addr).add j) = some u := by
        intro j u hu
        have hn : 0 < n := by
          rcases Nat.eq_zero_or_pos n with h | h
          · subst h
            have : xs = [] := List.eq_nil_of_length_eq_zero (by simpa using hown.1)
            subst this; simp at hu
          · exact h
        obtain ⟨g', o', cap', hv, _, _, _, _, _, hc, _⟩ := hown.form hn
        injection hv with h1 h2 h3
        injection h1 with h1
        injection h1 with h1 h4
        subst h1; subst h4
        rw [add_plain]; exact hc j u hu
      have hge := grownCap_ge w (n + m) cap e
      have hcap : grownCap w (n + m) cap e ≤ maxLen := grownCap_le_maxLen w (n + m) cap e h63
      have hr := run_append_grow (P := P) w t ty e i z ht hi hz ⟨g, o, none⟩ n cap xs hown.1 holds a m c news hl hnews hroom (by unfold maxLen at h63; omega) (growslice_fits hroom hbytes)
      refine ⟨_, _, hr, ⟨hlen, .inr ⟨w.heap.size, 0, _, _, rfl, by omega, hbase, heap_alloc_new w.drew _, hge, hcap, ?_, ?_⟩⟩, ⟨rfl, rfl, rfl, by simp, fun k hk _ => Below.heap_alloc w.drew _ k hk⟩, .inr (offBlock_some _ _ _ (by omega))⟩
      · simp only [Array.size_append, List.size_toArray, size_zeroCells, hzs, hown.1, hl, ← Nat.add_mul, Nat.zero_add]
        have : n + m + (grownCap w (n + m) cap e - (n + m)) = grownCap w (n + m) cap e := by omega
        rw [this]; exact Nat.le_refl _
      · simp only [Array.toList_append, List.append_assoc, List.drop_zero]
        rw [← List.append_assoc, ← hlen]
        exact List.take_left
    · have hm2 : (n + m) * i.size ≤ cap * i.size := Nat.mul_le_mul_right _ hroom
      have hsum : (n + m) * i.size = n * i.size + m * i.size := Nat.add_mul _ _ _
      have hf := run_firstCells_some (P := P) w i.size m a m c news hl hnews
      have hst := run_storeCells_at P g (o + n * i.size) e news 0 cur w hh (by rw [hl]; omega) h1
      simp only [Nat.add_zero] at hst
      refine ⟨.slice (some ⟨g, o, none⟩) (n + m) cap, w.setRow g (cur.toList.take (o + n * i.size) ++ news ++ cur.toList.drop (o + n * i.size + news.length)).toArray, ?_, ⟨hlen, .inr ⟨g, o, cap, _, rfl, h0, hb, setRow_heap w g cur _ e _ hh, hroom, hcm, ?_, ?_⟩⟩, ⟨rfl, rfl, rfl, by simp, fun k _ hk => setRow_other w g k _ (fun e => hk (by rw [offBlock_some _ _ _ h0, e]))⟩, .inl ?_⟩
      · simp [Builtin.append_, run_underlying ht, sizeOf, typeInfo, hi, Builtin.lenOf, hroom, hf, Addr.add_lit, hst]
      · simp only [List.size_toArray, List.length_append, List.length_take, List.length_drop, Array.length_toList]
        omega
      · have hto : (cur.toList.take (o + n * i.size)).drop o = xs := by
          rw [List.drop_take, Nat.add_sub_cancel_left, htk]
        have hlo : o ≤ (cur.toList.take (o + n * i.size)).length := by simp; omega
        simp only [List.append_assoc]
        rw [List.drop_append_of_le_length hlo, hto, ← List.append_assoc, ← hlen]
        exact List.take_left
      · rw [offBlock_some _ _ _ h0, offBlock_some _ _ _ h0]

theorem wp_append_off {o : Oper} {a : Act} {K : Act → World → Prop} {Q : Exit → Act → World → Prop} (s x : Operand) (t : TypeId)
    (ho : o.op = .call { callee := .builtin .append, args := #[s, x], argTypes := #[t, t] })
    (base : Nat) (e : TypeId) (i : TypeInfo) (z : Value) (size bytes : Nat) (ht : P.underlying t = some (.slice e)) (hi : P.info? e = some i) (hz : i.zero = some z)
    (hsize : i.size = size) (hby : i.bytes = bytes) (hzs : z.cells.size = size) (hsz : 0 < size)
    (v : Value) (n : Nat) (xs : List Value) (hs : a.eval s = v) (hown : OffRow w base e size v n xs)
    (B : Nat) (A : Option Addr) (m c : Nat) (news : List Value) (hx : a.eval x = .slice A m c) (hr : Reads w B size A m news) (h1 : ∀ u ∈ news, u.oneCell' = true) (hm : 0 < m)
    (h63 : n + m ≤ maxLen) (hbytes : (n + m) * bytes ≤ 140737488355328) (hbase : base ≤ w.heap.size)
    (h : ∀ v' w', OffRow w' base e size v' (n + m) (xs ++ news) → w.grownBy w' (offBlock v) → (offBlock v' = offBlock v ∨ offBlock v' = some w.heap.size) → K (a.put o.dst v') w') : o.wp P a w K Q := by
  obtain ⟨ad, rfl, _, hc⟩ := hr.2 hm
  obtain ⟨v', w', hrun, h2, h3, h4⟩ := run_append_off (P := P) w base t o.type e i z size bytes ht hi hz hsize hby hzs hsz v n xs hown ad m c news hr.1 hc h1 hm h63 hbytes hbase
  unfold Oper.wp execOp
  simp only [ho, resolve, invoke, builtin, Sem.run_bind, Sem.run_pure, Result.andThen_ok, List.map_toArray, List.map_cons, List.map_nil, hs, hx, hrun]
  exact h v' w' h2 h3 h4
theorem wpList_append_off {ops : Array Oper} {rest : List Oper} {o : Oper} {a : Act} {Q : Exit → Act → World → Prop} (hgd : o.guard = none) (s x : Operand) (t : TypeId)
    (ho : o.op = .call { callee := .builtin .append, args := #[s, x], argTypes := #[t, t] })
    (base : Nat) (e : TypeId) (i : TypeInfo) (z : Value) (size bytes : Nat) (ht : P.underlying t = some (.slice e)) (hi : P.info? e = some i) (hz : i.zero = some z)
    (hsize : i.size = size) (hby : i.bytes = bytes) (hzs : z.cells.size = size) (hsz : 0 < size)
    (v : Value) (n : Nat) (xs : List Value) (hs : a.eval s = v) (hown : OffRow w base e size v n xs)
    (B : Nat) (A : Option Addr) (m c : Nat) (news : List Value) (hx : a.eval x = .slice A m c) (hr : Reads w B size A m news) (h1 : ∀ u ∈ news, u.oneCell' = true) (hm : 0 < m)
    (h63 : n + m ≤ maxLen) (hbytes : (n + m) * bytes ≤ 140737488355328) (hbase : base ≤ w.heap.size)
    (h : ∀ v' w', OffRow w' base e size v' (n + m) (xs ++ news) → w.grownBy w' (offBlock v) → (offBlock v' = offBlock v ∨ offBlock v' = some w.heap.size) → wpList P ops Q rest (a.put o.dst v') w') : wpList P ops Q (o :: rest) a w :=
  wpList_plain hgd fun _ hK => wp_append_off w s x t ho base e i z size bytes ht hi hz hsize hby hzs hsz v n xs hs hown B A m c news hx hr h1 hm h63 hbytes hbase fun v' w' h2 h3 h4 => hK _ _ (h v' w' h2 h3 h4)
theorem off_slice {w : World} {base : Nat} {e : TypeId} {size n : Nat} {v : Value} {xs : List Value} (h : OffRow w base e size v n xs) : ∃ A c, v = .slice A n c ∧ n ≤ c ∧ c ≤ maxLen := by
  rcases h.2 with ⟨rfl, A, rfl⟩ | ⟨g, o, cap, cur, rfl, _, _, _, h1, h2, _⟩
  · exact ⟨_, _, rfl, Nat.le_refl _, by decide⟩
  · exact ⟨_, _, rfl, h1, h2⟩
/-- Cells that hold what they held: what the operations of a drawn region may lean on. -/
def Kept (L : List (Nat × Nat × Value)) (w : World) : Prop := ∀ x ∈ L, w.cell? ⟨x.1, x.2.1, none⟩ = some x.2.2
theorem Kept.below {L : List (Nat × Nat × Value)} {w w' : World} (h : Kept L w) (hb : Below w.heap.size w w') : Kept L w' := fun x hx => by
  have := h x hx
  rw [hb.cell (p := ⟨x.1, x.2.1, none⟩) (block_lt_of_cell (a := ⟨x.1, x.2.1, none⟩) this)]; exact this
theorem Kept.alloc {L : List (Nat × Nat × Value)} {w : World} (h : Kept L w) (o : Obj) : Kept L (w.alloc o) := h.below ((Below.refl _ _).alloc (Nat.le_refl _) o)
theorem Kept.grown {L : List (Nat × Nat × Value)} {w w' : World} {row : Option Nat} (h : Kept L w) (hg : w.grownBy w' row) (hn : ∀ x ∈ L, some x.1 ≠ row) : Kept L w' := fun x hx => by
  have := h x hx
  rw [World.cell?_of_block (a := ⟨x.1, x.2.1, none⟩) (hg.block x.1 (block_lt_of_cell (a := ⟨x.1, x.2.1, none⟩) this) (hn x hx))]; exact this
theorem off_blk_ne {w : World} {base : Nat} {e t : TypeId} {size n g : Nat} {v : Value} {xs : List Value} {cs : Array Value} (h : OffRow w base e size v n xs) (hg : Blk w g t cs) (hne : e ≠ t) : offBlock v ≠ some g := by
  intro he
  rcases h.2 with ⟨_, A, rfl⟩ | ⟨g', o, cap, cur, rfl, h0, hb, hh, _⟩
  · cases A <;> simp [offBlock] at he
  · rw [offBlock_some _ _ _ h0] at he
    injection he with he
    simp only at he
    subst he
    exact Blk.ne_ (t := e) hh hg hne rfl
/-- The same among the operations of a drawn region that lay or write memory of the call's own. -/
theorem wpR_append_off {ops : Array Oper} {I : World → Prop} {Q : Exit → Act → World → Prop} {tail r : List Oper} {o : Oper} {a : Act} (hgd : o.guard = none) (s x : Operand) (t : TypeId)
    (ho : o.op = .call { callee := .builtin .append, args := #[s, x], argTypes := #[t, t] })
    (base : Nat) (e : TypeId) (i : TypeInfo) (z : Value) (size bytes : Nat) (ht : P.underlying t = some (.slice e)) (hi : P.info? e = some i) (hz : i.zero = some z)
    (hsize : i.size = size) (hby : i.bytes = bytes) (hzs : z.cells.size = size) (hsz : 0 < size)
    (v : Value) (n : Nat) (xs : List Value) (hs : a.eval s = v) (hown : OffRow w base e size v n xs)
    (B : Nat) (A : Option Addr) (m c : Nat) (news : List Value) (hx : a.eval x = .slice A m c) (hr : Reads w B size A m news) (h1 : ∀ u ∈ news, u.oneCell' = true) (hm : 0 < m)
    (h63 : n + m ≤ maxLen) (hbytes : (n + m) * bytes ≤ 140737488355328) (hbase : base ≤ w.heap.size)
    (h : ∀ v' w', OffRow w' base e size v' (n + m) (xs ++ news) → w.grownBy w' (offBlock v) → (offBlock v' = offBlock v ∨ offBlock v' = some w.heap.size) → I w' ∧ ∀ w2, Below w'.heap.size w' w2 → I w2 → wpR P ops I Q tail r (a.put o.dst v') w2) : wpR P ops I Q tail (o :: r) a w := by
  obtain ⟨ad, rfl, _, hc⟩ := hr.2 hm
  obtain ⟨v', w', hrun, h2, h3, h4⟩ := run_append_off (P := P) w base t o.type e i z size bytes ht hi hz hsize hby hzs hsz v n xs hown ad m c news hr.1 hc h1 hm h63 hbytes hbase
  have hw : Region.wanted o (yielded ops a.tmps) = true := by simp [Region.wanted, hgd]
  unfold wpR ROp
  rw [if_pos hw]
  unfold execOp
  simp only [ho, resolve, invoke, builtin, Sem.run_bind, Sem.run_pure, Result.andThen_ok, List.map_toArray, List.map_cons, List.map_nil, hs, hx, hrun, RUpon]
  exact h v' w' h2 h3 h4
end
end Go.Proofs.Ytacjckocjngfoaa
