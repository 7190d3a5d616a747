/-
  The walks of lines.may and lines.Update at starts of a text. Nothing that was there is changed.
-/
import Derived.Test.YtincfcjiodooiaaUpd
namespace Go.Proofs.Ytincfcjiodooiaa
open Go.RowKit
set_option linter.unusedVariables false

/-- Starts that may be: they begin with 0, ascend and are small. -/
def Asc (L : List Int) : Prop := 0 < L.length ∧ L.getD 0 0 = 0 ∧ (∀ i, i + 1 < L.length → L.getD i 0 < L.getD (i + 1) 0) ∧ ∀ i, L.getD i 0 ≤ 600
theorem asc_starts (s : ByteArray) (h : s.size ≤ 600) : Asc (starts s.data.toList) := by
  have hl : s.data.toList.length = s.size := by simp
  refine ⟨by simp [starts], by simp [starts], fun i hi => starts_mono _ i hi, fun i => ?_⟩
  have := starts_le s.data.toList i
  omega

set_option maxRecDepth 100000 in
set_option maxHeartbeats 2000000 in
theorem may_any (v : Value) (L : List Int) (w : World) (h : Row .i64 w v L) (ha : Asc L) (hl : L.length ≤ 1000) :
    Calls Try.prog 48 #[v] w fun e w' => e = .returned (.bool true) ∧ w = w' := by
  obtain ⟨h0, h1, h2, h3⟩ := ha
  obtain ⟨A, cap, rfl, hlc, hcap, hwf, hrd⟩ := h
  unfold maxLen at hcap
  obtain ⟨bA, oA, rfl, hbA, hcA⟩ := hrd.plain h0 (by omega)
  have hcell : ∀ i, i < L.length → w.cell? ⟨bA, oA + i, none⟩ = some (.int .i64 (L.getD i 0)) := fun i hi => hcA i _ (by simp [List.getD, hi])
  have HC := Lib.hid hcell
  have H1 := Lib.hid h1
  have H2 := Lib.hid h2
  have H3 := Lib.hid h3
  clear hcA hcell hrd hwf h1 h2 h3
  go_enter Try.func48, Try.ntmps48
  go_wp2_with fail
  go_loop [7] (fun i => ∃ k : Nat, k ≤ L.length ∧ i = .int .i64 k) (fun i => L.length - (intOf i).toNat)
  case atStart => exact ⟨0, Nat.zero_le _, rfl⟩
  case round =>
    obtain ⟨k, hk, rfl⟩ := hrel
    by_cases hlt : k < L.length
    · have c1 := HC.out k hlt
      rcases k with _ | k
      · rw [Nat.add_zero] at c1
        generalize L.getD 0 0 = y at *
        go_wp2_with fail
        go_round
        case rel => exact ⟨1, by omega, by go_num⟩
        case measure => simp [intOf]; omega
      · have c0 := HC.out k (by omega)
        have hh := H2.out k hlt
        generalize L.getD (k + 1) 0 = y at *
        generalize L.getD k 0 = x at *
        go_wp2_with fail
        go_round
        case rel => exact ⟨k + 1 + 1, by omega, by go_num⟩
        case measure => simp [intOf]; omega
    · obtain rfl : k = L.length := by omega
      have c0 := HC.out 0 h0
      rw [H1.out, Nat.add_zero] at c0
      have c1 := HC.out (L.length - 1) (by omega)
      have b1 := H3.out (L.length - 1)
      have z1 : ((L.length : Int) - 1) = ((L.length - 1 : Nat) : Int) := by omega
      obtain ⟨m, hm⟩ : ∃ m, L.length = m + 1 := ⟨L.length - 1, by omega⟩
      have HM := Lib.hid hm
      have hm9 : m ≤ 1000 := by omega
      have e1 : L.length - 1 = m := by omega
      rw [e1] at c1 b1
      generalize L.getD m 0 = y at *
      clear e1 z1 hm
      clear hlt
      rw [HM.out]
      clear hl h0 hlc hk
      go_wp2_with fail
      go_ret
      exact ⟨rfl, rfl⟩

def UpdE (L : List Int) (e : Ed) (w : World) (z : Ending) (w' : World) : Prop :=
  ∃ v, z = .returned (.tuple #[v, .int .i64 0]) ∧ Row .i64 w' v (updated L e) ∧ Below w.heap.size w w'
set_option maxRecDepth 100000 in
set_option maxHeartbeats 4000000 in
theorem update_any (v : Value) (L : List Int) (n : Nat) (e : Ed) (w : World) (h : Row .i64 w v L) (ha : Asc L) (hl : L.length ≤ 1000) (hL : ∀ x ∈ L, 0 ≤ x ∧ x ≤ 1000) (hs : ∀ i j, i ≤ j → j < L.length → L.getD i 0 ≤ L.getD j 0)
    (hn : ∀ i, L.getD i 0 ≤ n) (hn6 : n ≤ 600) (hp : e.p + e.c ≤ n) (hu : n - e.c + e.put.size ≤ 600) :
    Calls Try.prog 26 #[v, .int .i64 n, edv e] w (UpdE L e w) := by
  have MAY := Lib.hid (fun W (h : Row .i64 W v L) => may_any v L W h ha hl)
  have UP := Lib.hid (fun W (h : Row .i64 W v L) => updated_any v L e W h hs hl hL (by omega) (by omega) (by omega))
  obtain ⟨p, c, put⟩ := e
  simp only at hp hu
  have CK := Lib.hid (fun W => check_any n p c put W hp hn6 hu)
  unfold edv at *
  have h0 := ha.1
  obtain ⟨A, cap, rfl, hlc, hcap, hwf, hrd⟩ := id h
  unfold maxLen at hcap
  obtain ⟨m, hm⟩ : ∃ m, L.length = m + 1 := ⟨L.length - 1, by omega⟩
  have hm9 : m ≤ 1000 := by omega
  obtain ⟨bA, oA, rfl, hbA, hcA⟩ := hrd.plain h0 (by omega)
  have c1 : w.cell? ⟨bA, oA + m, none⟩ = some (.int .i64 (L.getD m 0)) := hcA m _ (by simp [List.getD, hm])
  have b1 := hn m
  have b2 := hL (L.getD m 0) (by simp [List.getD, hm])
  obtain ⟨b3, b4⟩ := b2
  rw [← ((Below.refl w.heap.size w).alloc (Nat.le_refl _) (Obj.cells #[.int .i64 p, .int .i64 c, .string put] 38)).cell (p := ⟨bA, oA + m, none⟩) hbA] at c1
  have kk := (Below.refl w.heap.size w).alloc (Nat.le_refl _) (Obj.cells #[.int .i64 p, .int .i64 c, .string put] 38)
  have T1 := Three.new w (.int .i64 p) (.int .i64 c) (.string put) 38
  have R1 := Lib.hid (h.later kk)
  rw [hm] at R1 hlc MAY UP ⊢
  clear hn hL hs ha hcA hrd hwf h h0 hl hm
  have d1 : decide ((n : Int) < L.getD m 0) = false := by rw [decide_eq_false_iff_not]; omega
  generalize L.getD m 0 = y at *
  obtain ⟨g1, x0, x1, x2⟩ := id T1
  have HT := Lib.hid T1
  clear T1
  go_enter Try.func26, Try.ntmps26
  go_wp2_with fail
  refine (MAY.out _ R1.out).mono ?_
  rintro e w1 ⟨rfl, rfl⟩
  go_wp2_with fail
  refine (CK.out _).mono ?_
  rintro e w1 ⟨rfl, hb1⟩
  replace R1 := Lib.hid (R1.out.later hb1)
  replace kk := bstep kk hb1
  clear g1 x0 x1 x2 c1
  obtain ⟨g1, x0, x1, x2⟩ := HT.out.later hb1
  clear hb1
  go_wp2_with fail
  refine (UP.out _ R1.out).mono ?_
  rintro e w2 ⟨v2, rfl, hr2, hb2⟩
  go_wp2_with fail
  go_ret2
  exact ⟨v2, rfl, hr2, bstep kk hb2⟩
end Go.Proofs.Ytincfcjiodooiaa
