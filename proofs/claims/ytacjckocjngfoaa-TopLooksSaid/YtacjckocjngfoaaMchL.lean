/-
  The machine of many finds: level by level.
-/
import Derived.Test.YtacjckocjngfoaaMchB
import Derived.Test.YtacjckocjngfoaaWrdG
import Derived.Test.YtacjckocjngfoaaCopy
namespace Go.Proofs.Ytacjckocjngfoaa
open Go.RowKit Go.WideMaps Go.Maps Go.ChangeShapes Go.ChangeMaps
open Go.WideElems (Fit rg rd_val)
set_option linter.unusedVariables false
set_option linter.unusedSimpArgs false

def key8 (c : UInt8) : Lit := .int .u8 (c.toNat : Int)
def sp (S : List UInt8 → Nat) (u : List UInt8) : Value := .pointer (some ⟨S u, 0, none⟩)
/-- Two rows of states: a level, and the one below that is gathered. -/
structure Lv (w W : World) (base base2 n : Nat) (l : List (List UInt8)) (S M : List UInt8 → Nat) (fd : List UInt8 → Int) (lv : Value) (ws : List (List UInt8)) (d : Nat) (bv : Value) (bs : List (List UInt8)) (bk : List UInt8 → Value) : Prop where
  m : Mch W w.heap.size n l S M fd bk
  sm : ∀ u ∈ l, S u < base ∧ M u < base
  le : base ≤ base2
  lo : W.ownsRow base 41 1 lv ws.length (ws.map (sp S))
  lb : ∀ g, lv.ownBlock = some g → g < base2
  ro : W.ownsRow base2 41 1 bv bs.length (bs.map (sp S))
  sz : base2 ≤ W.heap.size
  back : ∀ v ∈ l, v.length ≤ d → bk v = sp S (psuf l v)
  backs : ∀ v ∈ bs, bk v = sp S (psuf l v)
  b : Below w.heap.size w W
  low : w.heap.size ≤ base
section
variable {w W W' : World} {base base2 n d : Nat} {l ws bs : List (List UInt8)} {S M : List UInt8 → Nat} {fd : List UInt8 → Int} {lv bv : Value} {bk : List UInt8 → Value}
theorem Lv.grown {row : Option Nat} (h : Lv w W base base2 n l S M fd lv ws d bv bs bk) (hg : W.grownBy W' row) (hr : ∀ q, row = some q → base2 ≤ q ∧ bv.ownBlock ≠ some q) : Lv w W' base base2 n l S M fd lv ws d bv bs bk := by
  have hle := h.le
  refine ⟨h.m.kept hg fun u hu => ?_, h.sm, h.le, h.lo.kept hg ?_, h.lb, h.ro.kept hg ?_, Nat.le_trans h.sz hg.size, h.back, h.backs, h.b.grown hg h.b.size fun q hq => ?_, h.low⟩
  · have := h.sm u hu
    exact ⟨fun e => by have := (hr _ e.symm).1; omega, fun e => by have := (hr _ e.symm).1; omega⟩
  · cases hq : lv.ownBlock with
    | none => exact .inl rfl
    | some q => exact .inr fun e => by have h1 := h.lb q hq; have h2 := (hr q e.symm).1; omega
  · cases hq : bv.ownBlock with
    | none => exact .inl rfl
    | some q => exact .inr fun e => (hr q e.symm).2 hq
  · have h1 := (hr q hq).1; have h2 := h.low; omega
theorem Lv.setBack (h : Lv w W base base2 n l S M fd lv ws d bv bs bk) {x : List UInt8} (hx : x ∈ l) (hd : d < x.length) (hn : ¬ x ∈ bs) (p : Value) :
    Lv w (W.setCell ⟨S x, 1, none⟩ p) base base2 n l S M fd lv ws d bv bs (fun v => if v = x then p else bk v) := by
  have hle := h.le
  have hs := h.sm x hx
  have hg := grown_set W ⟨S x, 1, none⟩ p
  refine ⟨h.m.setBack hx p, h.sm, h.le, h.lo.kept hg ?_, h.lb, h.ro.kept hg ?_, Nat.le_trans h.sz hg.size, fun v hv hvd => ?_, fun v hv => ?_, h.b.setCell (p := ⟨S x, 1, none⟩) (h.m.low x hx).1 _, h.low⟩
  · cases hq : lv.ownBlock with
    | none => exact .inl rfl
    | some q => exact .inr fun e => by have h1 := (h.lo.lt q hq).1; have := Option.some.inj e; simp at this; omega
  · cases hq : bv.ownBlock with
    | none => exact .inl rfl
    | some q => exact .inr fun e => by have h1 := (h.ro.lt q hq).1; have := Option.some.inj e; simp at this; omega
  · simp only [if_neg (show v ≠ x from fun e => by rw [e] at hvd; omega)]
    exact h.back v hv hvd
  · simp only [if_neg (show v ≠ x from fun e => hn (e ▸ hv))]
    exact h.backs v hv
theorem Lv.push (h : Lv w W base base2 n l S M fd lv ws d bv bs bk) {x : List UInt8} {bv' : Value} (ho : W'.ownsRow base2 41 1 bv' (bs ++ [x]).length ((bs ++ [x]).map (sp S))) (hg : W.grownBy W' bv.ownBlock) (hb : bk x = sp S (psuf l x)) :
    Lv w W' base base2 n l S M fd lv ws d bv' (bs ++ [x]) bk := by
  have hle := h.le
  refine ⟨h.m.kept hg fun u hu => ?_, h.sm, h.le, h.lo.kept hg ?_, h.lb, ho, Nat.le_trans h.sz hg.size, h.back, fun v hv => ?_, h.b.grown hg h.b.size fun q hq => ?_, h.low⟩
  · have := h.sm u hu
    exact ⟨fun e => by have := (h.ro.lt _ e.symm).1; omega, fun e => by have := (h.ro.lt _ e.symm).1; omega⟩
  · cases hq : lv.ownBlock with
    | none => exact .inl rfl
    | some q => exact .inr fun e => by have h1 := h.lb q hq; have h2 := (h.ro.lt q e.symm).1; omega
  · rcases List.mem_append.1 hv with hv | hv
    · exact h.backs v hv
    · rw [List.mem_singleton.1 hv]; exact hb
  · have h1 := (h.ro.lt q hq).1; have h2 := h.low; omega
end
theorem Lv.down {w W : World} {base base2 n d : Nat} {l ws bs : List (List UInt8)} {S M : List UInt8 → Nat} {fd : List UInt8 → Int} {lv bv : Value} {bk : List UInt8 → Value} (h : Lv w W base base2 n l S M fd lv ws d bv bs bk) (hb : ∀ v ∈ l, v.length = d + 1 → v ∈ bs) :
    Lv w W base W.heap.size n l S M fd bv bs (d + 1) (.slice none 0 0) [] bk := by
  refine ⟨h.m, h.sm, Nat.le_trans h.le h.sz, own_mono h.ro h.le, fun g hg => (h.ro.lt g hg).2, World.ownsRow_nil _ _ _ _, Nat.le_refl _, fun v hv hvd => ?_, by simp, h.b, h.low⟩
  rcases Nat.lt_or_ge d v.length with h1 | h1
  · exact h.backs v (hb v hv (by omega))
  · exact h.back v hv h1
theorem own1_at {W : World} {base : Nat} {e : TypeId} {v : Value} {xs : List Value} (h : W.ownsRow base e 1 v xs.length xs) {j : Nat} (hj : j < xs.length) :
    ∃ g cap, v = .slice (some ⟨g, 0, none⟩) xs.length cap ∧ W.cell? ⟨g, j, none⟩ = some xs[j] ∧ xs.length ≤ cap ∧ cap ≤ maxLen := by
  rcases h.2 with ⟨rfl, hn⟩ | ⟨g, cap, cur, rfl, hb, hh, hnc, hcm, hs, ht⟩
  · omega
  · refine ⟨g, cap, rfl, ?_, hnc, hcm⟩
    rw [cell_of_row W g j cur e (0, 0) hh]
    have := congrArg (fun l : List Value => l[j]?) ht
    simp only [List.getElem?_take, Nat.mul_one] at this
    rw [if_pos hj, List.getElem?_eq_getElem hj] at this
    rw [← this]
    simp
theorem wpList_append_w {P : Program} {w : World} {ops : Array Oper} {Q : Exit → Act → World → Prop} {rest : List Oper} {o : Oper} {a : Act} (hgd : o.guard = none) (s x : Operand) (t : TypeId)
    (ho : o.op = .call { callee := .builtin .append, args := #[s, x], argTypes := #[t, t] })
    (base : Nat) (e : TypeId) (z : Value) (size bytes : Nat) (ht : P.underlying t = some (.slice e)) (hi : (P.info? e).map (fun i => (i.zero, i.size, i.bytes)) = some (some z, size, bytes)) (hzs : z.cells.size = size) (hsz : 0 < size)
    (v : Value) (n : Nat) (xs : List Value) (hs : a.eval s = v) (hown : w.ownsRow base e size v n xs)
    (B : Nat) (A : Option Addr) (m c : Nat) (news : List Value) (hx : a.eval x = .slice A m c) (hr : Reads w B size A m news) (h1 : ∀ u ∈ news, u.oneCell' = true)
    (h63 : n + m ≤ maxLen) (hbytes : (n + m) * bytes ≤ 140737488355328) (hbase : base ≤ w.heap.size)
    (h : ∀ v' w', w'.ownsRow base e size v' (n + m) (xs ++ news) → w.grownBy w' v.ownBlock → (v'.ownBlock = v.ownBlock ∨ v'.ownBlock = some w.heap.size) → wpList P ops Q rest (a.put o.dst v') w') : wpList P ops Q (o :: rest) a w := by
  obtain ⟨i, hi0, hz0, hzz, hzb⟩ := info_parts hi
  obtain ⟨v', w', hrun, h2, h3, h4⟩ := run_append_any (P := P) w base t o.type e i z size bytes ht hi0 hz0 hzz hzb hzs hsz v n xs hown B A m c news hr h1 h63 hbytes hbase
  refine wpList_plain hgd fun K' hK' => ?_
  unfold Oper.wp
  simp [execOp, ho, resolve, invoke, builtin, hs, hx, hrun, Result.andThen]
  exact hK' _ _ (h v' w' h2 h3 h4)
theorem ptr_info : (Try.prog.info? 41).map (fun i => (i.zero, i.size, i.bytes)) = some (some (.pointer none), 1, 8) := by kernel_rfl
/-- Which words have been gathered: those below the first j of the level, and those below the next one whose signs have come. -/
structure Gat (l ws bs : List (List UInt8)) (j : Nat) (u : List UInt8) (left : Lit → Bool) : Prop where
  nd : bs.Nodup
  i1 : ∀ x ∈ bs, x ∈ l ∧ ∃ p c, x = p ++ [c] ∧ (p ∈ ws.take j ∨ (p = u ∧ left (key8 c) = false))
  i2 : ∀ p ∈ ws.take j, ∀ c, p ++ [c] ∈ l → p ++ [c] ∈ bs
  i3 : ∀ c, u ++ [c] ∈ l → left (key8 c) = false → u ++ [c] ∈ bs
structure Got (l ws bs : List (List UInt8)) (j : Nat) : Prop where
  nd : bs.Nodup
  i1 : ∀ x ∈ bs, x ∈ l ∧ ∃ p c, x = p ++ [c] ∧ p ∈ ws.take j
  i2 : ∀ p ∈ ws.take j, ∀ c, p ++ [c] ∈ l → p ++ [c] ∈ bs
theorem Got.start (l ws : List (List UInt8)) : Got l ws [] 0 := ⟨by simp, by simp, by simp⟩
theorem Got.gat {l ws bs : List (List UInt8)} {j : Nat} (h : Got l ws bs j) (u : List UInt8) {left : Lit → Bool} (hl : ∀ c, left (key8 c) = decide (u ++ [c] ∈ l)) : Gat l ws bs j u left :=
  ⟨h.nd, fun x hx => by obtain ⟨h1, p, c, h2, h3⟩ := h.i1 x hx; exact ⟨h1, p, c, h2, .inl h3⟩, h.i2, fun c hc hc2 => by rw [hl, decide_eq_true hc] at hc2; cases hc2⟩
theorem key8_ne {c d : UInt8} (h : d ≠ c) : (key8 d).sameKey (key8 c) = false := sameKey_ne (sign_ne h)
theorem key8_same (c : UInt8) : (key8 c).sameKey (key8 c) = true := WideAt.sameKey_self (show WideAt.IsKeyLit (key8 c) from trivial)
theorem Gat.not_in {l ws bs : List (List UInt8)} {j : Nat} {u : List UInt8} {left : Lit → Bool} (h : Gat l ws bs j u left) (hw : ¬ u ∈ ws.take j) {c : UInt8} (hc : left (key8 c) = true) : ¬ u ++ [c] ∈ bs := fun hx => by
  obtain ⟨_, p, c', h1, h2⟩ := h.i1 _ hx
  obtain ⟨rfl, rfl⟩ := snoc_inj h1
  rcases h2 with h2 | ⟨_, h2⟩
  · exact hw h2
  · rw [hc] at h2; cases h2
theorem Gat.step {l ws bs : List (List UInt8)} {j : Nat} {u : List UInt8} {left : Lit → Bool} (h : Gat l ws bs j u left) (hw : ¬ u ∈ ws.take j) {c : UInt8} (hc : left (key8 c) = true) (hm : u ++ [c] ∈ l) :
    Gat l ws (bs ++ [u ++ [c]]) j u (fun z => left z && !z.sameKey (key8 c)) := by
  have hni := h.not_in hw hc
  refine ⟨List.nodup_append.2 ⟨h.nd, by simp, fun a ha b hb => by rw [List.mem_singleton.1 hb]; exact fun e => hni (e ▸ ha)⟩, fun x hx => ?_, fun p hp d hd => List.mem_append.2 (.inl (h.i2 p hp d hd)), fun d hd hl => ?_⟩
  · rcases List.mem_append.1 hx with hx | hx
    · obtain ⟨h1, p, d, h2, h3⟩ := h.i1 x hx
      refine ⟨h1, p, d, h2, h3.imp id fun ⟨h4, h5⟩ => ⟨h4, by rw [h5]; rfl⟩⟩
    · rw [List.mem_singleton.1 hx]
      exact ⟨hm, u, c, rfl, .inr ⟨rfl, by rw [key8_same]; simp⟩⟩
  · by_cases e : d = c
    · subst e; simp
    · rw [key8_ne e] at hl
      simp at hl
      exact List.mem_append.2 (.inl (h.i3 d hd hl))
theorem Gat.done {l ws bs : List (List UInt8)} {j : Nat} {left : Lit → Bool} (hj : j < ws.length) (h : Gat l ws bs j ws[j] left) (hl : ∀ kl, left kl = false) : Got l ws bs (j + 1) := by
  have e := List.take_succ_eq_append_getElem hj
  refine ⟨h.nd, fun x hx => ?_, fun p hp c hc => ?_⟩
  · obtain ⟨h1, p, c, h2, h3⟩ := h.i1 x hx
    refine ⟨h1, p, c, h2, ?_⟩
    rw [e]
    clear h2
    rcases h3 with h3 | ⟨h3, _⟩
    · exact List.mem_append.2 (.inl h3)
    · exact List.mem_append.2 (.inr (List.mem_singleton.2 h3))
  · rw [e] at hp
    rcases List.mem_append.1 hp with hp | hp
    · exact h.i2 p hp c hc
    · rw [List.mem_singleton.1 hp] at hc ⊢
      exact h.i3 c hc (hl _)
theorem not_take {ws : List (List UInt8)} (hn : ws.Nodup) {j : Nat} (hj : j < ws.length) : ¬ ws[j] ∈ ws.take j := fun h => by
  obtain ⟨i, hi, e⟩ := List.mem_iff_getElem.1 h
  rw [List.length_take] at hi
  rw [List.getElem_take] at e
  exact (List.pairwise_iff_getElem.1 hn i j (by omega) hj (by omega)) e
/-- All the words of a length. -/
structure Lvl (l ws : List (List UInt8)) (d : Nat) : Prop where
  nd : ws.Nodup
  mem : ∀ u, u ∈ ws ↔ u ∈ l ∧ u.length = d
theorem Got.lvl {l ws bs : List (List UInt8)} {d : Nat} (ht : Trie l) (hw : Lvl l ws d) (h : Got l ws bs ws.length) : Lvl l bs (d + 1) := by
  have i1 := h.i1
  have i2 := h.i2
  rw [List.take_length] at i1 i2
  refine ⟨h.nd, fun x => ⟨fun hx => ?_, fun ⟨h1, h2⟩ => ?_⟩⟩
  · obtain ⟨h1, p, c, rfl, h3⟩ := i1 x hx
    exact ⟨h1, by rw [List.length_append, ((hw.mem p).1 h3).2]; rfl⟩
  · have hne : x ≠ [] := fun e => by rw [e] at h2; simp at h2
    have e := List.dropLast_concat_getLast hne
    rw [← e] at h1 h2 ⊢
    have h4 := ht.up _ _ h1
    rw [List.length_append] at h2
    simp only [List.length_cons, List.length_nil] at h2
    exact i2 _ ((hw.mem _).2 ⟨h4, by omega⟩) _ h1
theorem Lvl.start {l : List (List UInt8)} (ht : Trie l) : Lvl l [[]] 0 := ⟨by simp, fun u => by
  rw [List.mem_singleton]
  exact ⟨fun e => by rw [e]; exact ⟨ht.nil, rfl⟩, fun ⟨_, h⟩ => List.length_eq_zero_iff.1 h⟩⟩
theorem trie_take {l : List (List UInt8)} (ht : Trie l) : ∀ (k : Nat) (u : List UInt8), u.length = k → u ∈ l → ∀ d ≤ k, u.take d ∈ l
  | 0, u, hk, hu, d, hd => by
    have : u = [] := List.length_eq_zero_iff.1 hk
    subst this; simpa using hu
  | k + 1, u, hk, hu, d, hd => by
    by_cases e : d = k + 1
    · rw [List.take_of_length_le (by omega)]; exact hu
    · have hne : u ≠ [] := fun e => by rw [e] at hk; simp at hk
      have e2 := List.dropLast_concat_getLast hne
      have h3 := ht.up u.dropLast _ (e2.symm ▸ hu)
      have h4 : u.dropLast.length = k := by rw [List.length_dropLast]; omega
      have := trie_take ht k u.dropLast h4 h3 d (by omega)
      rw [List.dropLast_eq_take, List.take_take] at this
      rw [Nat.min_eq_left (by omega)] at this
      exact this
theorem Lvl.end_ {l : List (List UInt8)} {d : Nat} (ht : Trie l) (h : Lvl l [] d) : ∀ v ∈ l, v.length < d := fun v hv => by
  rcases Nat.lt_or_ge v.length d with h1 | h1
  · exact h1
  · have := (h.mem (v.take d)).2 ⟨trie_take ht v.length v rfl hv d h1, by rw [List.length_take]; omega⟩
    cases this
theorem Lvl.len {l ws : List (List UInt8)} {d : Nat} (h : Lvl l ws d) : ws.length ≤ l.length := List.Nodup.length_le_of_subset h.nd fun x hx => ((h.mem x).1 hx).1
theorem Gat.len {l ws bs : List (List UInt8)} {j : Nat} {u : List UInt8} {left : Lit → Bool} (h : Gat l ws bs j u left) : bs.length ≤ l.length := List.Nodup.length_le_of_subset h.nd fun x hx => (h.i1 x hx).1
/-- How long the words of a level are, as the world tells. -/
def lvl (W : World) : Value → Nat
  | .slice (some a) (_ + 1) _ => match W.cell? a with
    | some p => lng W p
    | none => 0
  | _ => 11
theorem Lv.lvl_eq {w W : World} {base base2 n d : Nat} {l ws bs : List (List UInt8)} {S M : List UInt8 → Nat} {fd : List UInt8 → Int} {lv bv : Value} {bk : List UInt8 → Value} (h : Lv w W base base2 n l S M fd lv ws d bv bs bk) (hw : Lvl l ws d) :
    (ws.length = 0 ∧ lvl W lv = 11) ∨ (0 < ws.length ∧ lvl W lv = d) := by
  rcases Nat.eq_zero_or_pos ws.length with hz | hz
  · refine .inl ⟨hz, ?_⟩
    obtain ⟨A, c, rfl, _, _⟩ := own_slice h.lo
    rw [hz]
    cases A <;> rfl
  · refine .inr ⟨hz, ?_⟩
    have h0 : W.ownsRow base 41 1 lv (ws.map (sp S)).length (ws.map (sp S)) := by rw [List.length_map]; exact h.lo
    obtain ⟨g, cap, rfl, hc, _⟩ := own1_at h0 (j := 0) (by rw [List.length_map]; exact hz)
    rw [List.getElem_map] at hc
    have hm := (hw.mem ws[0]).1 (List.getElem_mem hz)
    have hlg := h.m.lng_eq hm.1
    rw [hm.2] at hlg
    obtain ⟨m, hm1⟩ : ∃ m, (ws.map (sp S)).length = m + 1 := ⟨ws.length - 1, by rw [List.length_map]; omega⟩
    rw [hm1]
    show (match W.cell? ⟨g, 0, none⟩ with | some p => lng W p | none => 0) = d
    rw [hc]
    exact hlg
/-- Which entry of a state's map has come. -/
theorem pick8 {g : UInt8 → Option Nat} {D : DataW Value} (hD : ∀ c : UInt8, D.atKey (.int .u8 (c.toNat : Int)) (.held (.pointer none)) = .held (pO (g c)) ∧ has D (.int .u8 (c.toNat : Int)) = (g c).isSome)
    {key v : Value} {kl : Lit} (hk : keyOf Try.prog 5 key = some kl) {y : DataW Value × List MemPlace} (hv : HV v = some y) (hat : ∀ zd, D.atKey kl zd = y.1) :
    ∃ c s, key = .int .u8 (c.toNat : Int) ∧ kl = key8 c ∧ g c = some s ∧ v = .pointer (some ⟨s, 0, none⟩) := by
  obtain ⟨x, rfl, rfl, hw⟩ := Maps.keyOf_int_inv Try.underlying5 hk
  obtain ⟨c, rfl⟩ : ∃ c : UInt8, x = (c.toNat : Int) := by
    have h1 : 0 ≤ x ∧ x ≤ 255 := bounds_u8 hw
    refine ⟨UInt8.ofNat x.toNat, ?_⟩
    rw [UInt8.toNat_ofNat']
    omega
  have h1 : has D (.int .u8 (c.toNat : Int)) = true := has_true_of_atKey hat
  rw [(hD c).2] at h1
  obtain ⟨s, hs⟩ := Option.isSome_iff_exists.1 h1
  have h2 := hat (.held (.pointer none))
  rw [(hD c).1, hs] at h2
  have h9 := Option.some.inj (show some (DataW.held v, ([] : List MemPlace)) = some y from hv)
  rw [← h9] at h2
  injection h2 with h2
  exact ⟨c, s, rfl, rfl, hs, h2.symm⟩
end Go.Proofs.Ytacjckocjngfoaa
