/-
  The walk of the rope's String: its text.
-/
import Derived.Test.YtddbhoilhapljaaRopeZ
namespace Go.Proofs.Ytddbhoilhapljaa
open Go.RowKit Go.Shelf
set_option linter.unusedVariables false
attribute [local go_sem] Oper.semAt_some

def c8 (l : List UInt8) : List Value := l.map fun b => Value.int .u8 (b.toNat : Int)
theorem c8_str (s : ByteArray) : Lib.strCells s = c8 s.data.toList := by simp [Lib.strCells, c8]
theorem c8_append (a b : List UInt8) : c8 (a ++ b) = c8 a ++ c8 b := by simp [c8]
theorem u8_info : (Try.prog.info? 5).map (fun i => (i.zero, i.size, i.bytes)) = some (some (.int .u8 0), 1, 1) := by kernel_rfl
theorem wpListIn_append_str {F : Fence} {n : Nat} {P : Program} (w : World) {ops : Array Oper} {rest : List Oper} {o : Oper} {a : Act} {Q : Exit → Act → World → Prop}
    (hg : o.guard = none) (s x : Operand) (t u : TypeId) (hop : o.op = Op.call { callee := Callee.builtin Builtin.append, args := #[s, x], argTypes := #[t, u] })
    (base : Nat) (e : TypeId) (i : TypeInfo) (h1 : P.underlying t = some (.slice e)) (hu : P.underlying u = some .string) (h2 : P.info? e = some i) (h3 : i.zero = some (.int .u8 0)) (h4 : i.size = 1) (h5 : i.bytes = 1)
    (v : Value) (k : Nat) (xs : List Value) (hs : a.eval s = v) (hown : w.ownsRow base e 1 v k xs) (b : ByteArray) (hx : a.eval x = .string b) (b1 : k + b.size ≤ maxLen) (b2 : k + b.size ≤ 140737488355328) (b3 : base ≤ w.heap.size)
    (hK : ∀ v' w', w'.ownsRow base e 1 v' (k + b.size) (xs ++ Lib.strCells b) → w.grownBy w' v.ownBlock → wpListIn F n P ops Q rest (a.put o.dst v') w') :
    wpListIn F n P ops Q (o :: rest) a w := by
  refine wpListIn_plain hg fun K hK' => ?_
  obtain ⟨v', w', hrun, r1, r2, r3⟩ := Lib.run_append_own_string (P := P) (w := w) base t u o.type e i h1 hu h2 h3 h4 h5 v k xs hown b b1 b2 b3
  unfold Oper.wpIn
  refine ⟨?_, ?_⟩
  · simp [Oper.about, hop, resolve, Target.leads, Sem.run_pure]
  · rw [Oper.semAt_plain F _ _ (by rw [hop]; intro c hc'; cases hc')]
    simp [execOp, hop, resolve, invoke, builtin, hs, hx, hrun, Result.andThen]
    exact hK' _ _ (hK v' w' r1 r2)
theorem T.lv_size (t : T) (h : t.ok) : ∀ s ∈ t.lv, 0 < s.size ∧ s.size ≤ t.tx.length := by
  induction t with
  | leaf s => intro x hx; simp [T.lv] at hx; subst hx; have h' : 0 < x.size := h; exact ⟨h', by simp [T.tx]⟩
  | node a b iha ihb =>
    obtain ⟨h1, h2, _⟩ := h
    intro x hx
    rcases List.mem_append.1 hx with hx | hx
    · have := iha h1 x hx; simp only [T.tx, List.length_append]; omega
    · have := ihb h2 x hx; simp only [T.tx, List.length_append]; omega
theorem T.lv_len (t : T) (h : t.ok) : t.lv.length ≤ t.tx.length := by
  induction t with
  | leaf s => have h' : 0 < s.size := h; simp [T.lv, T.tx]; omega
  | node a b iha ihb =>
    obtain ⟨h1, h2, _⟩ := h
    have := iha h1
    have := ihb h2
    simp only [T.lv, T.tx, List.length_append]; omega
abbrev Lf := {s : ByteArray // s.size ≤ 600}
theorem cat_len (l : List Lf) : (cat (l.map (·.1))).length ≤ 600 * l.length := by
  induction l with
  | nil => simp [cat]
  | cons x l ih =>
    have e : cat ((x :: l).map (·.1)) = x.1.data.toList ++ cat (l.map (·.1)) := by simp [cat]
    have := x.2
    have e2 : x.1.data.toList.length = x.1.size := by simp
    rw [e, List.length_append, List.length_cons, Nat.mul_add]; omega
def catV (l : List Lf) : List UInt8 := cat (l.map (·.1))
theorem catV_app (l : List Lf) (x : Lf) : catV (l ++ [x]) = catV l ++ x.1.data.toList := by simp [catV, cat]
theorem boxed_str {W w1 : World} {n₀ B : Nat} {t e : TypeId} {v v' : Value} {size k m : Nat} {xs ys : List Value}
    (hv : Boxed W B t v) (hte : t ≠ e) (hrow : W.ownsRow n₀ e size v k xs) (hn₀ : n₀ ≤ W.heap.size) (hB : n₀ ≤ B)
    (hown' : w1.ownsRow n₀ e size v' m ys) (hgrow : W.grownBy w1 v.ownBlock) :
    Boxed w1 B t v ∧ Boxed (w1.setCell ⟨B, 0, none⟩ v') B t v' ∧ (w1.setCell ⟨B, 0, none⟩ v').ownsRow n₀ e size v' m ys ∧ KeepsOthers W (w1.setCell ⟨B, 0, none⟩ v') ∧ Below n₀ W (w1.setCell ⟨B, 0, none⟩ v') := by
  have hv1 : Boxed w1 B t v := hv.kept hgrow (hv.not_row hte hrow)
  refine ⟨hv1, hv1.set v', hown'.kept (grownBy_setCell' w1 B v') (.inr (hv1.not_row hte hown').symm), ?_, ?_⟩
  · refine (KeepsOthers.of_grownBy hgrow fun j o ej hj => ?_).trans (KeepsOthers.setCell _ _ _)
    rcases hrow.2 with ⟨rfl, _⟩ | ⟨g, cap, cur, rfl, _, hgb, _⟩
    · simp [Value.ownBlock] at ej
    · obtain rfl : g = j := by simpa [Value.ownBlock] using ej
      rw [hgb] at hj; cases hj; rfl
  · refine ((Below.refl n₀ W).grown hgrow hn₀ fun j ej => ?_).setCell (p := ⟨B, 0, none⟩) hB v'
    rcases hrow.2 with ⟨rfl, _⟩ | ⟨g, cap, cur, rfl, hb, _, _⟩
    · simp [Value.ownBlock] at ej
    · obtain rfl : g = j := by simpa [Value.ownBlock] using ej
      exact hb
set_option maxRecDepth 100000 in
set_option maxHeartbeats 8000000 in
theorem string_any (v : Value) (o : Option T) (w : World) (h : RO w v o) (hok : ook o) (hl : (otx o).length ≤ 600) :
    Calls Try.prog 62 #[v] w fun e w' => e = .returned (.string ⟨(otx o).toArray⟩) ∧ Below w.heap.size w w' := by
  obtain ⟨i0, hi, hz0, hz1, hz2⟩ := info_parts u8_info
  have HLN := Lib.hid (ropeLen_any v o w h)
  have hG : ∀ s ∈ olv o, s.size ≤ 600 := by
    cases o with
    | none => intro s hs; cases hs
    | some t => intro s hs; have := T.lv_size t hok s hs; have : t.tx.length ≤ 600 := hl; omega
  have hN : (olv o).length ≤ 600 := by
    cases o with
    | none => simp [olv]
    | some t => have := T.lv_len t hok; have : t.tx.length ≤ 600 := hl; simp only [olv]; omega
  obtain ⟨p, rfl⟩ := h.shape
  refine (callsIn_wide (n := 5)).1 ?_
  have hro : Fence.wide.round = none := rfl
  refine callsIn_of_wp_marks Try.func62 rfl trivial ?_ hro
  simp only [Try.ntmps62, List.size_toArray, List.length_cons, List.length_nil, Nat.reduceAdd, Nat.reduceSub, Array.replicate_succ, Array.replicate_zero, List.push_toArray, List.append_toArray, List.nil_append, List.cons_append]
  gi_wp2_with (first
    | ((try refine ⟨trivial, ?_⟩); gi_at_call 86; refine (callsIn_wide.2 HLN.out).mono ?_; rintro e w' ⟨rfl, rfl⟩)
    | (gi_at_make; refine wpListIn_make_own _ rfl _ _ 144 rfl w.heap.size 5 i0 _ 1 Try.underlying144 hi hz0 hz1 .i64 .i64 ((otx o).length : Int) (otx o).length rfl rfl rfl (by rw [hz2]; omega) (by unfold maxLen; omega) (Nat.le_refl _) ?_; intro w1 hown1 hg1)
    | ((try refine ⟨trivial, ?_⟩); gi_at_call 87; refine (leaves_in _ _ trivial hro _ _).mono ?_; rintro e w' ⟨rfl, rfl⟩))
  have bO := Boxed.new w1 144 (.slice (some ⟨w.heap.size, 0, none⟩) 0 (otx o).length)
  have hb1 : Below w.heap.size w w1 := (Below.refl _ w).grown hg1 (Nat.le_refl _) (by simp)
  have hs1 := hb1.size
  have hB0 : Below w.heap.size w ((w1.alloc (.cells #[.slice (some ⟨w.heap.size, 0, none⟩) 0 (otx o).length] 144)).alloc (.cells #[.pointer p] 110)) := (hb1.alloc hs1 _).alloc (by simp; omega) _
  have bN := Boxed.new (w1.alloc (.cells #[.slice (some ⟨w.heap.size, 0, none⟩) 0 (otx o).length] 144)) 110 (.pointer p)
  rw [World.size_alloc] at bN
  --CUT
  refine wpIn_rangeFunc_ownG hro (by omega) (gf := 101) (lb := #[.pointer (some ⟨w1.heap.size + 1, 0, none⟩)]) rfl trivial (enters_of Try.func101 (by kernel_rfl) rfl)
    (leaves_stops Fence.wide rfl (5 - 1) trivial trivial hro (w1.heap.size + 1) w (.pointer p) o (fun s => s.size ≤ 600) hG _ (by simp) hB0 bN.cell h) belowK_t (belowK_b (by simp; omega)) (Below.refl _ _) (fun _ => rfl)
    (fun (pre : List Lf) W => (∃ v, Boxed W w1.heap.size 144 v ∧ W.ownsRow w.heap.size 5 1 v (catV pre).length (c8 (catV pre)) ∧ True) ∧ Below w.heap.size w W)
    (fun _ _ _ => False)
    (OwnFrom.and (Own.from (holdsRow_own w.heap.size w1.heap.size 144 5 1 (fun pre : List Lf => (catV pre).length) (fun pre => c8 (catV pre)) (fun pre v => True)) _) (ownFrom_below (Nat.le_refl _) (by simp; omega)))
    (fun _ _ _ _ _ hs _ _ => hs)
    ⟨⟨_, bO.alloc _, (own_below (own_below hown1 ((Below.refl _ _).alloc (Nat.le_refl _) _)) ((Below.refl _ _).alloc (Nat.le_refl _) _)), trivial⟩, hB0⟩
    (fun x => { tmps := #[.pointer p, undef, .string ⟨#[]⟩, .pointer (some ⟨w1.heap.size, 0, none⟩), .string x.1, .pointer p, .int .i64 ((otx o).length : Int), .slice (some ⟨w.heap.size, 0, none⟩) 0 (otx o).length, .pointer p, .func (.func 101) #[] #[.pointer (some ⟨w1.heap.size + 1, 0, none⟩)], .string x.1, undef, undef, undef, undef, undef], defers := [] }) ?assign ?body ?done ?stop
  case assign =>
    intro l x W K hK
    gi_wp2
    exact hK
  case body =>
    rintro l pre x W ⟨⟨v, hv, hrow, hnil⟩, hB⟩ hlt
    have hc := hv.cell
    have hpl : (catV pre).length ≤ 600 * pre.length := cat_len pre
    have hxs := x.2
    have hp6 : pre.length ≤ 600 := by omega
    have hle : (catV pre).length + x.1.size ≤ 400000 := by omega
    gi_wp2_with (gi_at_builtin; refine wpListIn_append_str _ rfl _ _ 144 9 rfl w.heap.size 5 i0 Try.underlying144 Try.underlying9 hi hz0 hz1 hz2 v _ _ rfl hrow x.1 rfl (by unfold maxLen; omega) (by omega) hB.size ?_; intro v' w2 hown' hgrow; obtain ⟨A2, c2, rfl, _, _⟩ := own_slice hown'; obtain ⟨hv1, hv2, hr2, hk2, hb2⟩ := boxed_str hv (by decide) hrow hB.size hs1 hown' hgrow; have hc1 := hv1.cell; have hf1 := hv1.frozen)
    exact ⟨hk2.from _, hb2, ⟨_, hv2, by rw [catV_app, c8_append, List.length_append, ← c8_str]; simpa using hr2, trivial⟩, hB.trans hb2⟩
  case done =>
    rintro D ys W hD hys ⟨⟨v, hv, hrow, hnil⟩, hB⟩ hK
    have hc := hv.cell
    obtain ⟨A2, c2, rfl, hA1, hA2⟩ := own_slice hrow
    have hcv : (convert 144 9 (.slice A2 (catV ys).length c2)).run Try.prog W = .ok (.string ⟨(catV ys).toArray⟩) W := by
      rcases hrow.2 with ⟨e1, e2⟩ | ⟨g, cap, cur, e1, e2, e3, e4, e5, e6, e7⟩
      · injection e1 with e1 e8 e9
        subst e1
        have hnil : catV ys = [] := List.eq_nil_of_length_eq_zero e8
        rw [run_convert_bytes_string W 144 9 5 none (catV ys).length c2 Try.underlying144 Try.underlying5 Try.underlying9, hnil]
        simp [go_sem, Conv.bytesToString]
        rfl
      · injection e1 with e1 e8 e9
        subst e1
        refine run_convert_bytes_back (P := Try.prog) W 144 9 5 ⟨g, 0, none⟩ c2 (catV ys) Try.underlying144 Try.underlying5 Try.underlying9 (fun j hj => ?_)
        have hj1 : j < (c8 (catV ys)).length := by simp [c8, hj]
        have h9 : cur[j]? = some (.int .u8 ((catV ys)[j].toNat : Int)) := by
          have h8 : (List.take ((catV ys).length * 1) cur.toList)[j]? = (c8 (catV ys))[j]? := by rw [e7]
          rw [List.getElem?_take_of_lt (by omega), Array.getElem?_toList] at h8
          rw [h8]; simp [c8, hj]
        have ha : (⟨g, 0, none⟩ : Addr).add j = ⟨g, j, none⟩ := by unfold Addr.add; split <;> simp_all
        rw [ha]
        simp [World.cell?, e3, h9]
    have HR : Hid (catV ys = otx o) := Lib.hid (by unfold catV; rw [hys, olv_tx])
    gi_wp2
    refine ⟨by simp, .inl ⟨_, _, rfl, run_takeDeferred hK, ?_⟩⟩
    exact ⟨_, results_tmp rfl _ _ _, by rw [HR.out]; rfl, hB.trans (belowK_b (w := w) (Nat.le_refl _) W D _ _ (by simp at hD; omega) hK rfl rfl)⟩
  case stop =>
    rintro D c pre W _ _ h _
    exact h.elim
end Go.Proofs.Ytddbhoilhapljaa
