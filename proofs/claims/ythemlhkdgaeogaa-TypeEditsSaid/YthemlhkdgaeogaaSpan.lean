/-
  The walks of slices.Clone, IndexFunc and DeleteFunc at spans, and of spans.Without and spans.May.
-/
import Derived.Test.YthemlhkdgaeogaaSpanP
import Derived.Test.YthemlhkdgaeogaaCopy
import Derived.Shelf.SlicesE.Clone
import Derived.Lib.SliceRun
namespace Go.Proofs.Ythemlhkdgaeogaa
open Go.RowKit Go.Shelf
set_option linter.unusedVariables false
set_option linter.unusedSimpArgs false

theorem span_info : (Try.prog.info? 73).map (fun i => (i.zero, i.size, i.bytes)) = some (some (.agg #[.int .i64 0, .int .i64 0]), 2, 16) := by kernel_rfl
def okS (s : Sp) : Bool := decide (s.lo < s.hi)
set_option maxHeartbeats 1000000 in
/-- What is struck out: a span of no place. -/
theorem bareSpan_any (s : Sp) (w : World) :
    Calls Try.prog 74 #[spv s] w fun e w' => e = .returned (.bool (!okS s)) ∧ Below w.heap.size w w' := by
  unfold spv okS
  by_cases h : s.lo < s.hi
  · have hd : decide ((s.hi : Int) ≤ (s.lo : Int)) = false := by simp; omega
    rw [decide_eq_true h]
    generalize s.lo = i at *
    generalize s.hi = r at *
    go_enter Try.func74, Try.ntmps74
    go_wp2
    go_ret
    exact ⟨ret_bool (by simp; omega), (Below.refl _ _).alloc (Nat.le_refl _) _⟩
  · have hd : decide ((s.hi : Int) ≤ (s.lo : Int)) = true := by simp; omega
    rw [decide_eq_false h]
    generalize s.lo = i at *
    generalize s.hi = r at *
    go_enter Try.func74, Try.ntmps74
    go_wp2
    go_ret
    exact ⟨ret_bool (by simp; omega), (Below.refl _ _).alloc (Nat.le_refl _) _⟩
/-- Where the first bare span stands: nowhere, or at k. -/
def firstBare (l : List Sp) : Int := if (l.takeWhile okS).length = l.length then -1 else (l.takeWhile okS).length
theorem tw_le (l : List Sp) : (l.takeWhile okS).length ≤ l.length := by
  induction l with
  | nil => simp
  | cons x l ih => simp only [List.takeWhile_cons]; split <;> simp; omega
theorem tw_below (l : List Sp) : ∀ j (hj : j < l.length), j < (l.takeWhile okS).length → okS l[j] = true := by
  induction l with
  | nil => intro j hj; simp at hj
  | cons x l ih =>
    intro j hj h
    by_cases hx : okS x = true
    · simp only [List.takeWhile_cons, hx, if_true, List.length_cons] at h
      cases j with
      | zero => exact hx
      | succ j => exact ih j (by simpa using hj) (by omega)
    · simp [List.takeWhile_cons, hx] at h
theorem tw_at (l : List Sp) (h : (l.takeWhile okS).length < l.length) : okS (l[(l.takeWhile okS).length]) = false := by
  induction l with
  | nil => simp at h
  | cons x l ih =>
    by_cases hx : okS x = true
    · simp only [List.takeWhile_cons, hx, if_true, List.length_cons] at h ⊢
      simp only [List.getElem_cons_succ]
      exact ih (by omega)
    · simp only [List.takeWhile_cons, hx]
      simpa using hx
theorem CRow.cells2 {w : World} {B : Nat} {A : Option Addr} {xs : List Sp} (h : Reads w B 2 A xs.length (cellsOf spc xs)) {i : Nat} (hi : i < xs.length) :
    ∃ b off, A = some ⟨b, off, none⟩ ∧ b < B ∧ w.cell? ⟨b, off + i * 2, none⟩ = some (.int .i64 (xs[i].lo : Int)) ∧ w.cell? ⟨b, off + i * 2 + 1, none⟩ = some (.int .i64 (xs[i].hi : Int)) := by
  obtain ⟨b, off, hA, hb, hx⟩ := CRow.at_ spc_len (by omega) h hi
  exact ⟨b, off, hA, hb, hx 0 _ rfl, by rw [Nat.add_assoc]; exact hx 1 _ rfl⟩
set_option maxHeartbeats 1000000 in
theorem indexBare_any (v : Value) (l : List Sp) (w : World) (h : CRow 2 spc w v l) (hl : l.length ≤ 1000) :
    Calls Try.prog 85 #[v, .func (.func 74) #[] #[]] w fun e w' => e = .returned (.int .i64 (firstBare l)) ∧ Below w.heap.size w w' := by
  obtain ⟨A, c, rfl, hlc, hc, hrd⟩ := h
  unfold maxLen at hc
  have HTW := Lib.hid (tw_le l)
  have HTB := Lib.hid (tw_below l)
  have HTA := Lib.hid (tw_at l)
  have HF : Hid (firstBare l = if (l.takeWhile okS).length = l.length then -1 else ((l.takeWhile okS).length : Int)) := Lib.hid rfl
  generalize hq : firstBare l = q at *
  generalize hk0 : (l.takeWhile okS).length = k0 at *
  clear hq hk0
  go_enter Try.func85, Try.ntmps85
  go_wp2_with fail
  go_loopw [8] (fun i wr => ∃ k : Nat, k ≤ l.length ∧ k ≤ k0 ∧ i = .int .i64 k ∧ Below w.heap.size w wr) (fun i _ => l.length - (intOf i).toNat)
  case atStart => exact ⟨0, Nat.zero_le _, Nat.zero_le _, rfl, Below.refl _ _⟩
  case round =>
    obtain ⟨k, hk, hkk, rfl, hb⟩ := hrel
    by_cases hlt : k < l.length
    · obtain ⟨b0, o0, rfl, hb0, c0, c1⟩ := CRow.cells2 (hrd.below hb) hlt
      have HP := Lib.hid (bareSpan_any l[k] wr)
      unfold spv at HP
      have e79 : ∀ args w, (callFunc 74 args).run Try.prog w = .ok (.enter 74 args) w := fun args w => by kernel_rfl
      by_cases hb9 : k < k0
      · have hok := HTB.out k hlt hb9
        rw [hok] at HP
        generalize l[k] = x at *
        have HB := Lib.hid hb
        clear hok hb
        go_wp2_with (go_at_fn 74; refine HP.out.mono ?_; rintro e w2 ⟨rfl, hb2⟩)
        have HB2 := Lib.hid (bstep HB.out hb2)
        clear hb2
        go_roundw
        case rel => exact ⟨k + 1, by omega, by omega, by go_num, HB2.out⟩
        case measure => simp [intOf]; omega
      · obtain rfl : k0 = k := by omega
        have hok := HTA.out hlt
        have hq : q = (k0 : Int) := by rw [HF.out, if_neg (by omega)]
        subst hq
        rw [hok] at HP
        generalize l[k0] = x at *
        have HB := Lib.hid hb
        clear hok hb HF
        go_wp2_with (go_at_fn 74; refine HP.out.mono ?_; rintro e w2 ⟨rfl, hb2⟩)
        have HB2 := Lib.hid (bstep HB.out hb2)
        clear hb2
        go_ret
        exact ⟨rfl, HB2.out⟩
    · obtain rfl : k = l.length := by omega
      have hq : q = -1 := by rw [HF.out, if_pos (by have := HTW.out; omega)]
      subst hq
      have HB := Lib.hid hb
      clear hb HF
      go_wp2_with fail
      go_ret
      exact ⟨rfl, HB.out⟩
/-- An owned row cut to its first elements; one whose cells behind are laid anew. -/
theorem own_cut {w : World} {base size n k cap : Nat} {e : TypeId} {g : Nat} {xs : List Value} (h : w.ownsRow base e size (.slice (some ⟨g, 0, none⟩) n cap) n xs) (hk : k ≤ n) : w.ownsRow base e size (.slice (some ⟨g, 0, none⟩) k cap) k (xs.take (k * size)) := by
  have hks : k * size ≤ n * size := Nat.mul_le_mul_right _ hk
  rcases h.2 with ⟨h', _⟩ | ⟨g', cap', cur, h', hb, hg, hnc, hcm, hcs, htake⟩
  · simp at h'
  · simp only [Value.slice.injEq, Option.some.injEq, Addr.mk.injEq, and_true, true_and] at h'
    obtain ⟨rfl, rfl⟩ := h'
    refine ⟨by rw [List.length_take, h.1, Nat.min_eq_left hks], .inr ⟨g, cap, cur, rfl, hb, hg, by omega, hcm, hcs, ?_⟩⟩
    rw [← htake, List.take_take, Nat.min_eq_left hks]
theorem own_setCells {base size n cap : Nat} {e : TypeId} {g : Nat} (vs : List Value) : ∀ (o : Nat) (w : World) (xs : List Value), w.ownsRow base e size (.slice (some ⟨g, 0, none⟩) n cap) n xs →
    ∃ xs', (w.setCells g o vs).ownsRow base e size (.slice (some ⟨g, 0, none⟩) n cap) n xs' ∧ xs'.take o = xs.take o ∧ ∀ B, B ≤ g → ∀ w0, Below B w0 w → Below B w0 (w.setCells g o vs) := by
  induction vs with
  | nil => intro o w xs h; exact ⟨xs, h, rfl, fun B _ w0 hb => hb⟩
  | cons v vs ih =>
    intro o w xs h
    obtain ⟨xs', h1, h2, h3⟩ := ih (o + 1) _ _ (h.stored o v).1
    refine ⟨xs', h1, ?_, fun B hB w0 hb => h3 B hB w0 (hb.setCell (p := ⟨g, o, none⟩) hB v)⟩
    have : xs'.take o = (xs'.take (o + 1)).take o := by rw [List.take_take, Nat.min_eq_left (by omega)]
    rw [this, h2, List.take_take, Nat.min_eq_left (by omega), List.take_set_of_le (Nat.le_refl _)]
theorem spc_set (xs : List Sp) (i : Nat) (hi : i < xs.length) (x : Sp) : ((cellsOf spc xs).set (i * 2) (.int .i64 (x.lo : Int))).set (i * 2 + 1) (.int .i64 (x.hi : Int)) = cellsOf spc (xs.set i x) := by
  have h1 := cellsOf_set (cl := spc) (sz := 2) spc_len xs i hi 0 (by omega) (.int .i64 (x.lo : Int)) ⟨x.lo, xs[i].hi⟩ rfl
  rw [Nat.add_zero] at h1
  rw [h1]
  have h2 := cellsOf_set (cl := spc) (sz := 2) spc_len (xs.set i ⟨x.lo, xs[i].hi⟩) i (by rw [List.length_set]; exact hi) 1 (by omega) (.int .i64 (x.hi : Int)) x (by rw [List.getElem_set_self]; rfl)
  rw [h2, List.set_set]
/-- What has been kept behind j elements. -/
structure KI (l cur : List Sp) (i j : Nat) : Prop where
  len : cur.length = l.length
  head : cur.take i = (l.take j).filter okS
  tail : cur.drop j = l.drop j
  lt_ : i < j
theorem KI.start (l : List Sp) (h : (l.takeWhile okS).length < l.length) : KI l l (l.takeWhile okS).length ((l.takeWhile okS).length + 1) := by
  refine ⟨rfl, ?_, rfl, Nat.lt_succ_self _⟩
  rw [List.take_succ_eq_append_getElem h, List.filter_append]
  have h1 : (l.take (l.takeWhile okS).length).filter okS = l.take (l.takeWhile okS).length := by
    rw [List.filter_eq_self]
    intro x hx
    obtain ⟨j, hj, rfl⟩ := List.mem_iff_getElem.1 hx
    rw [List.length_take] at hj
    rw [List.getElem_take]
    exact tw_below l j (by omega) (by omega)
  rw [h1]
  simp [tw_at l h]
theorem KI.at_ {l cur : List Sp} {i j : Nat} (h : KI l cur i j) (hj : j < l.length) : cur[j]'(by rw [h.len]; exact hj) = l[j] := by
  have h1 := congrArg (fun z => z[0]?) h.tail
  simp only [List.getElem?_drop, Nat.add_zero] at h1
  rw [List.getElem?_eq_getElem (by rw [h.len]; exact hj), List.getElem?_eq_getElem hj] at h1
  injection h1
theorem KI.keep {l cur : List Sp} {i j : Nat} (h : KI l cur i j) (hj : j < l.length) (hok : okS l[j] = true) : KI l (cur.set i l[j]) (i + 1) (j + 1) := by
  have hlt := h.lt_
  have hl := h.len
  refine ⟨by rw [List.length_set]; exact hl, ?_, ?_, by omega⟩
  · rw [List.take_succ_eq_append_getElem (by rw [List.length_set]; omega), List.getElem_set_self, List.take_set_of_le (Nat.le_refl _), h.head, List.take_succ_eq_append_getElem hj, List.filter_append]
    simp [hok]
  · rw [List.drop_set_of_lt (by omega)]
    have := congrArg (List.drop 1) h.tail
    simpa using this
theorem KI.skip {l cur : List Sp} {i j : Nat} (h : KI l cur i j) (hj : j < l.length) (hok : okS l[j] = false) : KI l cur i (j + 1) := by
  have hlt := h.lt_
  refine ⟨h.len, ?_, ?_, by omega⟩
  · rw [h.head, List.take_succ_eq_append_getElem hj, List.filter_append]
    simp [hok]
  · have := congrArg (List.drop 1) h.tail
    simpa using this
theorem KI.done {l cur : List Sp} {i : Nat} (h : KI l cur i l.length) : cur.take i = l.filter okS := by
  rw [h.head, List.take_length]
theorem KI.done_len {l cur : List Sp} {i : Nat} (h : KI l cur i l.length) : (l.filter okS).length = i := by
  rw [← h.done, List.length_take, h.len]
  have := h.lt_
  omega
theorem run_clear_cells {P : Program} (w : World) (t e ty : TypeId) (z : Value) (ht : P.underlying t = some (.slice e)) (hv : ∀ w, (zeroValue e).run P w = .ok z w) (hz : 0 < z.cells.size) (h1 : ∀ u ∈ z.cells, u.oneCell' = true) (b o n c : Nat) (hn : 0 < n)
    (hc : ∀ j, j < n * z.cells.size → (w.cell? ⟨b, o + j, none⟩).isSome = true) (hf : ∀ j, j < n * z.cells.size → w.frozen? ⟨b, o + j, none⟩ = false) :
    (Builtin.clear_ #[t] ty #[.slice (some ⟨b, o, none⟩) n c]).run P w = .ok (.tuple #[]) (w.setCells b o (Builtin.zeroCells z.cells n).toList) := by
  have hlen : (Builtin.zeroCells z.cells n).toList.length = n * z.cells.size := by simp [Builtin.zeroCells]
  have hmem : ∀ v ∈ (Builtin.zeroCells z.cells n).toList, v.oneCell' = true := by
    intro v hv'
    simp only [Builtin.zeroCells, Array.toList_map, List.mem_map] at hv'
    obtain ⟨i, _, rfl⟩ := hv'
    have hlt : i % z.cells.size < z.cells.size := Nat.mod_lt _ hz
    rw [getElem!_pos z.cells _ hlt]
    exact h1 _ (Array.getElem_mem hlt)
  have hst := run_storeCells_cells (P := P) b o (Builtin.zeroCells z.cells n).toList 0 w (by rw [hlen]; simpa using hc) (by rw [hlen]; simpa using hf) hmem
  simp only [Nat.add_zero] at hst
  obtain ⟨m, rfl⟩ : ∃ m, n = m + 1 := ⟨n - 1, by omega⟩
  simp [Builtin.clear_, run_underlying ht, hv, hst]
def DelPost (base : Nat) (l : List Sp) (w : World) (e : Ending) (w' : World) : Prop :=
  ∃ v', e = .returned v' ∧ w'.ownsRow base 73 2 v' (l.filter okS).length (cellsOf spc (l.filter okS)) ∧ (∀ w0, Below base w0 w → Below base w0 w') ∧ w.heap.size ≤ w'.heap.size
set_option maxRecDepth 100000 in
set_option maxHeartbeats 4000000 in
theorem deleteBare_any (base : Nat) (v : Value) (l : List Sp) (w : World) (h : w.ownsRow base 73 2 v l.length (cellsOf spc l)) (hbs : base ≤ w.heap.size) (hl : l.length ≤ 1000) :
    Calls Try.prog 73 #[v, .func (.func 74) #[] #[]] w (DelPost base l w) := by
  have HI := Lib.hid (indexBare_any v l w (CRow.of_own spc_len h) hl)
  have HH := Lib.hid h
  obtain ⟨A, c, rfl, hc1, hc2⟩ := own_slice h
  have hc2' := hc2
  unfold maxLen at hc2'
  by_cases hall : (l.takeWhile okS).length = l.length
  · have hf : firstBare l = -1 := if_pos hall
    have hfil : l.filter okS = l := by
      rw [List.filter_eq_self]
      intro x hx
      obtain ⟨j, hj, rfl⟩ := List.mem_iff_getElem.1 hx
      exact tw_below l j hj (by omega)
    have HF := Lib.hid hfil
    rw [hf] at HI
    clear hf hfil hall h
    go_enter Try.func73, Try.ntmps73
    go_wp2_with fail
    refine HI.out.mono ?_
    rintro e w1 ⟨rfl, hb1⟩
    go_wp2_with fail
    go_ret
    exact ⟨_, rfl, by rw [HF.out]; exact own_below HH.out hb1, fun w0 h0 => h0.trans (hb1.mono hbs), hb1.size⟩
  · have hlt := Nat.lt_of_le_of_ne (tw_le l) hall
    have hf : firstBare l = ((l.takeWhile okS).length : Int) := if_neg hall
    have HK := Lib.hid (KI.start l hlt)
    rw [hf] at HI
    generalize (l.takeWhile okS).length = k0 at *
    obtain ⟨g, cap, hv, hg, hgl⟩ := h.form (by omega)
    injection hv with e1 e2 e3
    subst e1
    subst e3
    have hne1 : ((k0 : Int) == -1) = false := beq_eq_false_iff_ne.2 (by omega)
    clear hf hall h
    go_enter Try.func73, Try.ntmps73
    go_wp2_with fail
    refine HI.out.mono ?_
    rintro e w1 ⟨rfl, hb1⟩
    have HO1 := Lib.hid (own_below HH.out hb1)
    have hs1 := hb1.size
    have HT1 : Hid (∀ w0, Below base w0 w → Below base w0 w1) := Lib.hid (fun w0 h0 => h0.trans (hb1.mono hbs))
    clear hb1
    go_wp2_with fail
    clear hne1
    go_loopw [5, 6, 7] (fun vi vj v7 wr => ∃ (i j : Nat) (cur : List Sp), vi = .int .i64 i ∧ vj = .int .i64 j ∧ j ≤ l.length ∧ Hid (KI l cur i j) ∧ wr.ownsRow base 73 2 (.slice (some ⟨g, 0, none⟩) l.length c) l.length (cellsOf spc cur) ∧ Hid (∀ w0, Below base w0 w → Below base w0 wr) ∧ w1.heap.size ≤ wr.heap.size) (fun _ vj _ _ => l.length - (intOf vj).toNat)
    case atStart => exact ⟨k0, k0 + 1, l, rfl, by go_num, hlt, HK, HO1.out, HT1, Nat.le_refl _⟩
    case round =>
      clear HK HO1 HT1
      obtain ⟨i, j, cur, rfl, rfl, hj, HKI, hown, HB, hsz⟩ := hrel
      have hij := HKI.out.lt_
      have hcl := HKI.out.len
      by_cases hjl : j < l.length
      · have hat := HKI.out.at_ hjl
        have hjc : j < cur.length := by omega
        have hic : i < cur.length := by omega
        have x0 := hown.cells (g := g) rfl (j * 2 + 0) _ ((cellsOf_at spc_len cur j hjc 0 (by decide)).trans rfl)
        have x1 := hown.cells (g := g) rfl (j * 2 + 1) _ ((cellsOf_at spc_len cur j hjc 1 (by decide)).trans rfl)
        rw [add_head] at x0 x1
        rw [hat] at x0 x1
        have hcell0 := fun i (hic : i < cur.length) => hown.cells (g := g) rfl (i * 2 + 0) _ ((cellsOf_at spc_len cur i hic 0 (by decide)).trans rfl)
        have hcell1 := fun i (hic : i < cur.length) => hown.cells (g := g) rfl (i * 2 + 1) _ ((cellsOf_at spc_len cur i hic 1 (by decide)).trans rfl)
        replace x0 : wr.cell? ⟨g, j * 2, none⟩ = some (.int .i64 (l[j].lo : Int)) := x0
        have HP := Lib.hid (fun W => bareSpan_any l[j] W)
        unfold spv at HP
        have HOW := fun o : Obj => Lib.hid (hown.alloc o)
        have hgr := (hown.lt g rfl).2
        have HKE := HKI.out.keep hjl
        have HSK := HKI.out.skip hjl
        have HKE := Lib.hid HKE
        have HSK := Lib.hid HSK
        have HSET := Lib.hid (spc_set cur i hic l[j])
        have e79 : ∀ args w, (callFunc 74 args).run Try.prog w = .ok (.enter 74 args) w := fun args w => by kernel_rfl
        generalize l[j] = x at *
        clear hown hat
        have u0 := hcell0 i hic
        have u1 := hcell1 i hic
        rw [add_head] at u0 u1
        replace u0 : wr.cell? ⟨g, i * 2, none⟩ = some (.int .i64 (cur[i].lo : Int)) := u0
        generalize cur[i].lo = y0 at *
        generalize cur[i].hi = y1 at *
        have BX := Blk.new wr 73 #[.int .i64 (x.lo : Int), .int .i64 (x.hi : Int)]
        have hi0 : (0 : Int) ≤ (i : Int) := by omega
        have hi1 : (i : Int) < (l.length : Int) := by omega
        have hj0 : (0 : Int) ≤ (j : Int) := by omega
        have hj1 : (j : Int) < (l.length : Int) := by omega
        have hbw : base ≤ wr.heap.size := by have := hs1; omega
        clear hcell0 hcell1
        by_cases hok : okS x = true
        · rw [hok] at HP
          have HK2 := Lib.hid (HKE.out hok)
          clear hok HKE HSK
          go_wp2_with fail
          refine (HP.out _).mono ?_
          rintro e w2 ⟨rfl, hb2⟩
          have hs2 := hb2.size
          simp at hs2
          have HO2 := Lib.hid (own_below (HOW (.cells #[.int .i64 (x.lo : Int), .int .i64 (x.hi : Int)] 73)).out hb2)
          have b0 : w2.cell? ⟨wr.heap.size, 0, none⟩ = some (.int .i64 (x.lo : Int)) := (BX.below hb2 (by simp)).cell 0
          have b1 : w2.cell? ⟨wr.heap.size, 1, none⟩ = some (.int .i64 (x.hi : Int)) := (BX.below hb2 (by simp)).cell 1
          have q0 : w2.cell? ⟨g, i * 2, none⟩ = some (.int .i64 (y0 : Int)) := (hb2.cell (p := ⟨g, i * 2, none⟩) (by simp; omega)).trans ((World.cell?_alloc_lt _ _ _ hgr).trans u0)
          have q1 : w2.cell? ⟨g, i * 2 + 1, none⟩ = some (.int .i64 (y1 : Int)) := (hb2.cell (p := ⟨g, i * 2 + 1, none⟩) (by simp; omega)).trans ((World.cell?_alloc_lt _ _ _ hgr).trans u1)
          have f0 := HO2.out.frozenAt (i * 2)
          have f1 := HO2.out.frozenAt (i * 2 + 1)
          have HB2 := Lib.hid (fun w0 h0 => ((HB.out w0 h0).alloc hbw (.cells #[.int .i64 (x.lo : Int), .int .i64 (x.hi : Int)] 73)).trans (hb2.mono (by simp; omega)))
          clear hb2 u0 u1 x0 x1
          go_wp2_with fail
          go_roundw
          case rel =>
            refine ⟨i + 1, j + 1, cur.set i x, by go_num, by go_num, by omega, HK2, ?_, Lib.hid (fun w0 h0 => ((HB2.out w0 h0).setCell (p := ⟨g, i * 2, none⟩) hg _).setCell (p := ⟨g, i * 2 + 1, none⟩) hg _), by simp; omega⟩
            have h9 := ((HO2.out.stored (i * 2) (.int .i64 (x.lo : Int))).1.stored (i * 2 + 1) (.int .i64 (x.hi : Int))).1
            rw [HSET.out] at h9
            exact h9
          case measure => simp [intOf]; omega
        · have hok' : okS x = false := by simpa using hok
          rw [hok'] at HP
          have HK2 := Lib.hid (HSK.out hok')
          clear hok hok' HKE HSK
          go_wp2_with fail
          refine (HP.out _).mono ?_
          rintro e w2 ⟨rfl, hb2⟩
          have hs2 := hb2.size
          simp at hs2
          have HO2 := Lib.hid (own_below (HOW (.cells #[.int .i64 (x.lo : Int), .int .i64 (x.hi : Int)] 73)).out hb2)
          have HB2 := Lib.hid (fun w0 h0 => ((HB.out w0 h0).alloc hbw (.cells #[.int .i64 (x.lo : Int), .int .i64 (x.hi : Int)] 73)).trans (hb2.mono (by simp; omega)))
          clear hb2 u0 u1 x0 x1
          go_wp2_with fail
          go_roundw
          case rel => exact ⟨i, j + 1, cur, rfl, by go_num, by omega, HK2, HO2.out, HB2, by omega⟩
          case measure => simp [intOf]; omega
      · obtain rfl : j = l.length := by omega
        have hil : i ≤ l.length := by omega
        have HD := Lib.hid HKI.out.done
        have HDL := Lib.hid HKI.out.done_len
        have HOW := Lib.hid hown
        have hi0 : (0 : Int) ≤ (i : Int) := by omega
        have hi1 : (i : Int) ≤ (l.length : Int) := by omega
        have hnc : (l.length : Int) ≤ (c : Int) := by omega
        have hne : ¬ c = i := by omega
        have hcl : ∀ ty, (Builtin.clear_ #[26] ty #[.slice (some ⟨g, i * 2, none⟩) (l.length - i) (c - i)]).run Try.prog wr = .ok (.tuple #[]) (wr.setCells g (i * 2) (Builtin.zeroCells #[.int .i64 0, .int .i64 0] (l.length - i)).toList) :=
          fun ty => run_clear_cells wr 26 73 ty (.agg #[.int .i64 0, .int .i64 0]) Try.underlying26 Try.zeroValue73 (by decide) (by decide) g (i * 2) (l.length - i) (c - i) (by omega)
            (fun q hq => by
              have hq' : i * 2 + q < l.length * 2 := by
                have : q < (l.length - i) * 2 := hq
                omega
              rw [hown.cellAt (i * 2 + q) hq', List.getElem?_eq_getElem (by rw [cellsOf_len spc_len, HKI.out.len]; exact hq')]; rfl)
            (fun q _ => hown.frozenAt _)
        obtain ⟨xs', ho', ht', hb'⟩ := own_setCells (Builtin.zeroCells #[.int .i64 0, .int .i64 0] (l.length - i)).toList (i * 2) wr _ hown
        have HO' := Lib.hid (own_cut ho' hil)
        have HT' := Lib.hid ht'
        have HB' := Lib.hid hb'
        have HCT := Lib.hid (cellsOf_take (cl := spc) spc_len cur i (by omega))
        clear hown hij ho' ht' hb'
        go_wp2_with fail
        go_ret
        refine ⟨_, rfl, ?_, fun w0 h0 => HB'.out base hg w0 (HB.out w0 h0), ?_⟩
        · have h9 := HO'.out
          rw [HT'.out, ← HCT.out, HD.out] at h9
          rw [HDL.out]; exact h9
        · have h10 := HB'.out 0 (Nat.zero_le _) wr (Below.refl _ _)
          exact Nat.le_trans hs1 (Nat.le_trans hsz h10.size)
end Go.Proofs.Ythemlhkdgaeogaa
