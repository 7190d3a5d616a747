/-
  The walks of slices.BinarySearchFunc at spans, spans.Joined, spans.With, Add and Cut.
-/
import Derived.Test.YthemlhkdgaeogaaSpanI
import Derived.Test.YthemlhkdgaeogaaSpanM
import Derived.Deep.QuietTactic
namespace Go.Proofs.Ythemlhkdgaeogaa
open Go.RowKit Go.Shelf
set_option linter.unusedVariables false
set_option linter.unusedSimpArgs false

set_option maxHeartbeats 1000000 in
theorem withClosure_any (x : Sp) (lo : Nat) (w : World) (hx : x.lo ≤ 100000) (hlo : lo ≤ 100000) :
    Calls Try.prog 76 #[spv x, .int .i64 (lo : Int)] w fun e w' => e = .returned (.int .i64 ((x.lo : Int) - (lo : Int))) ∧ Below w.heap.size w w' := by
  unfold spv
  generalize x.lo = i at *
  generalize x.hi = r at *
  go_enter Try.func76, Try.ntmps76
  go_wp2
  go_ret
  exact ⟨rfl, (Below.refl _ _).alloc (Nat.le_refl _) _⟩
def SearchPost (l : List Sp) (lo : Nat) (w : World) (e : Ending) (w' : World) : Prop :=
  ∃ (i : Nat) (b : Bool), e = .returned (.tuple #[.int .i64 (i : Int), .bool b]) ∧ i ≤ l.length ∧ (∀ j (hj : j < l.length), j < i → l[j].lo < lo) ∧ (∀ j (hj : j < l.length), i ≤ j → lo ≤ l[j].lo) ∧ Below w.heap.size w w'
theorem nrm_mono (l : List Sp) (b : Nat) (h : Nrm b l) : ∀ j k (hj : j < l.length) (hk : k < l.length), j < k → l[j].lo < l[k].lo := by
  intro j k hj hk hjk
  induction k with
  | zero => omega
  | succ k ih =>
    have h1 := nrm_next l b h k (by omega)
    have h2 := nrm_lt l b h k (by omega)
    rcases Nat.lt_or_ge j k with h3 | h3
    · have := ih (by omega) h3; omega
    · obtain rfl : j = k := by omega
      omega
set_option maxRecDepth 100000 in
set_option maxHeartbeats 2000000 in
theorem search_any (v : Value) (l : List Sp) (lo : Nat) (w : World) (h : CRow 2 spc w v l) (hl : l.length ≤ 1000) (hlo : lo ≤ 100000) (hsm : Small l) (hN : Nrm 0 l) :
    Calls Try.prog 75 #[v, .int .i64 (lo : Int), .func (.func 76) #[] #[]] w (SearchPost l lo w) := by
  obtain ⟨A, c, rfl, hc1, hc2, hrd⟩ := h
  unfold maxLen at hc2
  have HRD := Lib.hid hrd
  have HSM := Lib.hid hsm
  unfold Small at HSM
  have HMO := Lib.hid (nrm_mono l 0 hN)
  clear hrd hsm hN
  go_enter Try.func75, Try.ntmps75
  go_wp2_with fail
  go_loopw [9, 10, 11] (fun vi vj _ wr => ∃ i j : Nat, vi = .int .i64 i ∧ vj = .int .i64 j ∧ i ≤ j ∧ j ≤ l.length ∧ Hid (∀ k (hk : k < l.length), k < i → l[k].lo < lo) ∧ Hid (∀ k (hk : k < l.length), j ≤ k → lo ≤ l[k].lo) ∧ Below w.heap.size w wr) (fun vi vj _ _ => (intOf vj).toNat - (intOf vi).toNat)
  case atStart => exact ⟨0, l.length, rfl, rfl, Nat.zero_le _, Nat.le_refl _, Lib.hid (fun k hk h => by omega), Lib.hid (fun k hk h => by omega), Below.refl _ _⟩
  case round =>
    obtain ⟨i, j, rfl, rfl, hij, hjl, HI, HJ, hb⟩ := hrel
    have hbs := hb.size
    by_cases hlt : i < j
    · have hmid : (i + j) / 2 < l.length := by omega
      obtain ⟨b, off, rfl, hbb, x0, x1⟩ := CRow.cells2 (HRD.out.below hb) hmid
      have e93 : ∀ args w, (callFunc 76 args).run Try.prog w = .ok (.enter 76 args) w := fun args w => by kernel_rfl
      have HC := Lib.hid (fun W => withClosure_any l[(i + j) / 2] lo W (HSM.out _ (List.getElem_mem hmid)).1 hlo)
      unfold spv at HC
      clear e93
      have HX : Hid (∀ k (hk : k < l.length), k ≤ (i + j) / 2 → l[k].lo ≤ l[(i + j) / 2].lo) := Lib.hid (fun k hk h => by
        rcases Nat.lt_or_ge k ((i + j) / 2) with h3 | h3
        · exact Nat.le_of_lt (HMO.out k _ hk hmid h3)
        · obtain rfl : k = (i + j) / 2 := by omega
          exact Nat.le_refl _)
      have HY : Hid (∀ k (hk : k < l.length), (i + j) / 2 ≤ k → l[(i + j) / 2].lo ≤ l[k].lo) := Lib.hid (fun k hk h => by
        rcases Nat.lt_or_ge ((i + j) / 2) k with h3 | h3
        · exact Nat.le_of_lt (HMO.out _ k hmid hk h3)
        · obtain rfl : k = (i + j) / 2 := by omega
          exact Nat.le_refl _)
      have hxs := (HSM.out _ (List.getElem_mem hmid)).1
      generalize l[(i + j) / 2] = x at *
      have HB := Lib.hid hb
      by_cases hlo2 : x.lo < lo
      · have hc0 : (x.lo : Int) - (lo : Int) < 0 := by omega
        have HI2 : Hid (∀ k (hk : k < l.length), k < (i + j) / 2 + 1 → l[k].lo < lo) := Lib.hid (fun k hk h => by have := HX.out k hk (by omega); omega)
        clear hb HX HY
        go_wp2_with fail
        refine (HC.out _).mono ?_
        rintro e w2 ⟨rfl, hb2⟩
        have HB2 := Lib.hid (bstep HB.out hb2)
        clear hb2
        go_wp2_with fail
        go_roundw
        case rel => exact ⟨(i + j) / 2 + 1, j, by congr 1, rfl, by omega, hjl, HI2, HJ, HB2.out⟩
        case measure => simp [intOf]; omega
      · have hc0 : ¬ (x.lo : Int) - (lo : Int) < 0 := by omega
        have HJ2 : Hid (∀ k (hk : k < l.length), (i + j) / 2 ≤ k → lo ≤ l[k].lo) := Lib.hid (fun k hk h => by have := HY.out k hk h; omega)
        clear hb HX HY
        go_wp2_with fail
        refine (HC.out _).mono ?_
        rintro e w2 ⟨rfl, hb2⟩
        have HB2 := Lib.hid (bstep HB.out hb2)
        clear hb2
        go_wp2_with fail
        go_roundw
        case rel => exact ⟨i, (i + j) / 2, rfl, by congr 1, by omega, by omega, HI, HJ2, HB2.out⟩
        case measure => simp [intOf]; omega
    · obtain rfl : i = j := by omega
      have HB := Lib.hid hb
      by_cases hin : i < l.length
      · obtain ⟨b, off, rfl, hbb, x0, x1⟩ := CRow.cells2 (HRD.out.below hb) hin
        have hxs := (HSM.out _ (List.getElem_mem hin)).1
        have HC := Lib.hid (fun W => withClosure_any l[i] lo W hxs hlo)
        unfold spv at HC
        generalize l[i] = x at *
        clear hb
        go_wp2_with fail
        refine (HC.out _).mono ?_
        rintro e w2 ⟨rfl, hb2⟩
        have HB2 := Lib.hid (bstep HB.out hb2)
        clear hb2
        go_wp2_with fail
        go_ret2
        exact ⟨i, _, rfl, by omega, HI.out, HJ.out, HB2.out⟩
      · clear hb
        go_wp2_with fail
        go_ret2
        exact ⟨i, _, rfl, by omega, HI.out, HJ.out, HB.out⟩
end Go.Proofs.Ythemlhkdgaeogaa
