/-
  slices.Values at ints, and slices.Sorted of it: the elements in ascending order.
-/
import Derived.RangeFuncBox
import Derived.RangeFuncBound
import Derived.RangeFuncKeeps
import Derived.RangeFuncWrites
import Derived.Shelf.Abstract
import Derived.WalkKit
import Derived.OwnWalkIn
import Derived.TacticsInMore
import Derived.LoopNIn
import Derived.LoopIn
import Derived.Maps.AppendAt
import Derived.Test.YtacjckocjngfoaaOpen
import Derived.Test.YtacjckocjngfoaaPick
import Derived.Test.YtacjckocjngfoaaCopy
namespace Go.Proofs.Ytacjckocjngfoaa
open Go.RowKit Go.Shelf
set_option linter.unusedVariables false
set_option linter.unusedSimpArgs false
attribute [local go_sem] Oper.semAt_some

theorem roundAnyI {F : Fence} (hd : F.depth = none) {m m' : Nat} {P : Program} {l : Nat} {f : FuncId} {tmps : Array Value} {assign body : Code} {w : World} {R : Ending → World → Prop}
    (h : RoundIn F m P l f tmps assign body w R) : RoundIn F m' P l f tmps assign body w R := ⟨h.1, fun c cs _ => h.2 c cs (fun d h => by rw [hd] at h; cases h)⟩
theorem yieldAnyI {F : Fence} (hd : F.depth = none) {m : Nat} (m' : Nat) {P : Program} {l : Nat} {args : Array Value} {W : World} {R : Ending → World → Prop} (h : YieldAt F m P l args W R) : YieldAt F m' P l args W R := by
  obtain ⟨fn, tmps, assign, body, hy, hR⟩ := h
  exact ⟨fn, tmps, assign, body, hy, roundAnyI hd hR⟩
set_option maxRecDepth 100000 in
set_option maxHeartbeats 4000000 in
theorem values1_stops (F : Fence) (hd : F.depth = none) (n : Nat) (hf : F.fn 39) (hro : F.round = none) (Bt : Nat) (w0 w : World) (A : Option Addr) (c : Nat) (xs : List Int)
    (hr : Reads w0 w0.heap.size 1 A xs.length (xs.map (.int .i64))) (hw : Below w0.heap.size w0 w) (hBt : Bt < w.heap.size) (hc : w.cell? ⟨Bt, 0, none⟩ = some (.slice A xs.length c)) (hlen : xs.length ≤ 1000000) :
    SeqStopsK F n Try.prog 39 #[.pointer (some ⟨Bt, 0, none⟩)] (fun x : Int => #[Value.int .i64 x]) (Below w0.heap.size) (fun ys => ys = xs) (fun pre => pre <+: xs) xs.length w := by
  intro l J Jx W hW hJ hJx hY h0
  have hdd : ∀ k : Nat, (F.depth.isSome = true → 1 ≤ k) := fun k h => by rw [hd] at h; cases h
  have hcW : W.cell? ⟨Bt, 0, none⟩ = some (.slice A xs.length c) := (hW.cell (p := ⟨Bt, 0, none⟩) hBt).trans hc
  have hbW : Below w0.heap.size w0 W := hw.trans (hW.mono hw.size)
  clear hW hc hBt hw
  refine callsIn_of_wp Try.func39 rfl hf ?_ hro
  simp only [Try.ntmps39, List.size_toArray, List.length_cons, List.length_nil, Nat.reduceAdd, Nat.reduceSub, Array.replicate_succ, Array.replicate_zero, List.push_toArray, List.append_toArray, List.nil_append, List.cons_append]
  have HY := Lib.hid hY
  clear hY
  gi_wp2
  gi_loopw [4, 7] (fun _ vi wr => ∃ k : Nat, k ≤ xs.length ∧ vi = .int .i64 (k : Int) ∧ J (xs.take k) wr ∧ Below w0.heap.size w0 wr) (fun _ vi _ => xs.length - (intOf vi).toNat)
  case atStart => exact ⟨0, Nat.zero_le _, rfl, by simpa using h0, hbW⟩
  case round =>
    clear h0 hcW hbW
    obtain ⟨k, hk, rfl, hj, hb⟩ := hrel
    by_cases hlt : k < xs.length
    · have i0 : (0 : Int) ≤ (k : Int) := by omega
      have i1 : (k : Int) < (xs.length : Int) := by omega
      obtain ⟨b0, o0, rfl, hadb, hcell⟩ := Row.at_ (hr.below hb) hlt
      obtain ⟨x, hx⟩ : ∃ x, xs.getD k 0 = x := ⟨_, rfl⟩
      rw [hx] at hcell
      have hYs := HY.out (xs.take k) x wr hj (by simp; omega)
      obtain ⟨fn, tmps, assign, body, hy, hR⟩ := hYs
      have HX : Hid (xs.take (k + 1) = xs.take k ++ [x]) := Lib.hid (by
        rw [List.take_succ_eq_append_getElem hlt]
        congr 2
        rw [← hx, List.getD_eq_getElem?_getD, List.getElem?_eq_getElem hlt]; rfl)
      clear hr hx
      gi_wp2_with ((try refine ⟨hdd _, ?_⟩); refine hR.mono ?_; clear hR; rintro e W2 (⟨rfl, hJ2, hb2⟩ | ⟨rfl, hx2⟩))
      · exact ⟨⟨k + 1, by omega, by go_num, by rw [HX.out]; exact hJ2, hb.trans hb2⟩, by simp [intOf]; omega⟩
      · refine bodyPost_ret (results_none rfl _ _ _) rfl ?_
        exact ⟨⟨_, rfl⟩, .inr ⟨_, ⟨xs.drop (k + 1), by rw [← HX.out, List.take_append_drop]⟩, hx2⟩⟩
    · obtain rfl : k = xs.length := by omega
      gi_wp2
      go_end0
      exact ⟨⟨_, rfl⟩, .inl ⟨xs, rfl, by simpa using hj⟩⟩
set_option maxHeartbeats 1000000 in
theorem values_in (F : Fence) (n : Nat) (h4 : F.fn 26) (hro : F.round = none) (A : Option Addr) (m c : Nat) (w : World) :
    CallsIn F n Try.prog 26 #[.slice A m c] w fun e w' => e = .returned (.func (.func 39) #[] #[.pointer (some ⟨w.heap.size, 0, none⟩)]) ∧ w' = w.alloc (.cells #[.slice A m c] 22) := by
  refine callsIn_of_wp Try.func26 rfl h4 ?_ hro
  simp only [Try.ntmps26, List.size_toArray, List.length_cons, List.length_nil, Nat.reduceAdd, Nat.reduceSub, Array.replicate_succ, Array.replicate_zero, List.push_toArray, List.append_toArray, List.nil_append, List.cons_append]
  gi_wp2
  go_ret
  exact ⟨rfl, rfl⟩
def encI (x : Int) : Value := .int .i64 x
set_option maxRecDepth 100000 in
set_option maxHeartbeats 8000000 in
/-- slices.AppendSeq(nil, slices.Values(xs)): a copy of it. -/
theorem appendSeq_in (Bt : Nat) (w0 w : World) (A : Option Addr) (c : Nat) (xs : List Int) (hr : Reads w0 w0.heap.size 1 A xs.length (xs.map (.int .i64))) (hw : Below w0.heap.size w0 w) (hBt : Bt < w.heap.size) (hc : w.cell? ⟨Bt, 0, none⟩ = some (.slice A xs.length c)) (hlen : xs.length ≤ 1000000) :
    Calls Try.prog 51 #[.slice none 0 0, .func (.func 39) #[] #[.pointer (some ⟨Bt, 0, none⟩)]] w fun e w' => ∃ v, e = .returned v ∧ w'.ownsRow w.heap.size 3 1 v xs.length (xs.map encI) ∧ Below w.heap.size w w' := by
  obtain ⟨i0, hi, hz0, hz1, hz2⟩ := info_parts int_info
  refine (callsIn_wide (n := 5)).1 ?_
  have hro : Fence.wide.round = none := rfl
  refine callsIn_of_wp_marks Try.func51 rfl trivial ?_ hro
  simp only [Try.ntmps51, List.size_toArray, List.length_cons, List.length_nil, Nat.reduceAdd, Nat.reduceSub, Array.replicate_succ, Array.replicate_zero, List.push_toArray, List.append_toArray, List.nil_append, List.cons_append]
  gi_wp2
  have bN := Boxed.new w 22 (.slice none 0 0)
  have hs := hw.size
  have hB0 : Below w.heap.size w (w.alloc (.cells #[.slice none 0 0] 22)) := (Below.refl _ _).alloc (Nat.le_refl _) _
  refine wpIn_rangeFunc_ownG hro (by omega) (gf := 39) (lb := #[.pointer (some ⟨Bt, 0, none⟩)]) rfl trivial (enters_of Try.func39 (by kernel_rfl) rfl)
    (values1_stops Fence.wide rfl (5 - 1) trivial hro Bt w0 w A c xs hr hw hBt hc hlen) belowK_t (belowK_b (by simp; omega)) hB0 (fun _ => rfl)
    (fun (pre : List Int) W => (∃ v, Boxed W w.heap.size 22 v ∧ W.ownsRow w.heap.size 3 1 v pre.length (pre.map encI) ∧ True) ∧ Below w.heap.size w W)
    (fun _ _ _ => False)
    (OwnFrom.and (Own.from (holdsRow_own w.heap.size w.heap.size 22 3 1 (fun pre : List Int => pre.length) (fun pre => pre.map encI) (fun pre v => True)) _) (ownFrom_below (Nat.le_refl _) (by simp)))
    (fun _ _ _ _ _ hs _ _ => hs)
    ⟨⟨_, bN, ⟨rfl, .inl ⟨rfl, rfl⟩⟩, trivial⟩, hB0⟩
    (fun x => { tmps := #[.slice none 0 0, .func (.func 39) #[] #[.pointer (some ⟨Bt, 0, none⟩)], .pointer (some ⟨w.heap.size, 0, none⟩), undef, .slice none 0 0, .int .i64 x, .func (.func 39) #[] #[.pointer (some ⟨Bt, 0, none⟩)], .int .i64 x, undef, undef, undef, undef, undef], defers := [] }) ?assign ?body ?done ?stop
  case assign =>
    intro l x W K hK
    gi_wp2
    exact hK
  case body =>
    rintro l pre x W ⟨⟨v, hv, hrow, hnil⟩, hB⟩ hlt
    have hc2 := hv.cell
    have hws : w.heap.size ≤ W.heap.size := hB.size
    gi_wp2_with (gi_at_builtin; (refine wpListIn_append_own _ rfl _ _ 22 rfl w.heap.size 3 i0 _ 1 8 Try.underlying22 hi hz0 hz1 hz2 rfl (by decide) v pre.length (pre.map encI) rfl (hrow.alloc _) ⟨W.heap.size, 0, none⟩ 1 1 [encI x] rfl rfl (one_new W (encI x) 3) (by simp [encI, Value.oneCell']) (by unfold maxLen; omega) (by omega) (by simp; omega) ?_; intro v' w2 hown' hgrow hnil'; obtain ⟨A2, c2, rfl, _, _⟩ := own_slice hown'; obtain ⟨hv1, hv2, hr2, hk2, hb2⟩ := hv.appended (by decide) hrow hws (Nat.le_refl _) hown' hgrow; have hcc := hv1.cell; have hff := hv1.frozen))
    exact ⟨hk2.from _, hb2.mono hs, ⟨_, hv2, by simpa using hr2, trivial⟩, hB.trans hb2⟩
  case done =>
    rintro D ys W hD rfl ⟨⟨v, hv, hrow, hnil⟩, hB⟩ hK
    have hc2 := hv.cell
    obtain ⟨A2, c2, rfl, hA1, hA2⟩ := own_slice hrow
    gi_wp2
    refine ⟨by simp, .inl ⟨_, _, rfl, run_takeDeferred hK, ?_⟩⟩
    exact ⟨_, results_tmp rfl _ _ _, _, rfl, ownsRow_putObj hrow _ hK rfl, hB.trans (belowK_b (w := w) (Nat.le_refl _) W D _ _ (by simp at hD; omega) hK rfl rfl)⟩
  case stop =>
    rintro D c pre W _ _ h _
    exact h.elim
end Go.Proofs.Ytacjckocjngfoaa
