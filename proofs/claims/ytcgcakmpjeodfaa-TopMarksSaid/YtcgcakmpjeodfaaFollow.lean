/-
  The walks of lines.may and lines.Update at starts of a text. Nothing that was there is changed.
-/
import Derived.Test.YtcgcakmpjeodfaaUpd
import Derived.Test.YtcgcakmpjeodfaaMay
namespace Go.Proofs.Ytcgcakmpjeodfaa
open Go.RowKit
set_option linter.unusedVariables false

def UpdE (L : List Int) (e : Ed) (w : World) (z : Ending) (w' : World) : Prop :=
  ∃ v, z = .returned (.tuple #[v, .int .i64 0]) ∧ Row .i64 w' v (updated L e) ∧ Below w.heap.size w w'
set_option maxRecDepth 100000 in
set_option maxHeartbeats 4000000 in
theorem update_any (v : Value) (L : List Int) (n : Nat) (e : Ed) (w : World) (h : Row .i64 w v L) (ha : Asc L) (hl : L.length ≤ 1000) (hL : ∀ x ∈ L, 0 ≤ x ∧ x ≤ 1000) (hs : ∀ i j, i ≤ j → j < L.length → L.getD i 0 ≤ L.getD j 0)
    (hn : ∀ i, L.getD i 0 ≤ n) (hn6 : n ≤ 600) (hp : e.p + e.c ≤ n) (hu : n - e.c + e.put.size ≤ 600) :
    Calls Try.prog 20 #[v, .int .i64 n, edv e] w (UpdE L e w) := by
  have MAY := Lib.hid (fun W (h : Row .i64 W v L) => may_any v L W h ha hl)
  have UP := Lib.hid (fun W (h : Row .i64 W v L) => updated_any v L e W h hs hl hL (by omega) (by omega) (by omega))
  obtain ⟨p, c, put⟩ := e
  simp only at hp hu
  have CK := Lib.hid (fun W => check_any n p c put W hp hn6 hu)
  unfold edv at *
  have h0 := ha.1
  obtain ⟨A, cap, rfl, hlc, hcap, hwf, hrd⟩ := id h
  unfold maxLen at hcap
  obtain ⟨m, hm⟩ : ∃ m, L.length = m + 1 := ⟨L.length - 1, by omega⟩
  have hm9 : m ≤ 1000 := by omega
  obtain ⟨bA, oA, rfl, hbA, hcA⟩ := hrd.plain h0 (by omega)
  have c1 : w.cell? ⟨bA, oA + m, none⟩ = some (.int .i64 (L.getD m 0)) := hcA m _ (by simp [List.getD, hm])
  have b1 := hn m
  have b2 := hL (L.getD m 0) (by simp [List.getD, hm])
  obtain ⟨b3, b4⟩ := b2
  rw [← ((Below.refl w.heap.size w).alloc (Nat.le_refl _) (Obj.cells #[.int .i64 p, .int .i64 c, .string put] 37)).cell (p := ⟨bA, oA + m, none⟩) hbA] at c1
  have kk := (Below.refl w.heap.size w).alloc (Nat.le_refl _) (Obj.cells #[.int .i64 p, .int .i64 c, .string put] 37)
  have T1 := Three.new w (.int .i64 p) (.int .i64 c) (.string put) 37
  have R1 := Lib.hid (h.later kk)
  rw [hm] at R1 hlc MAY UP ⊢
  clear hn hL hs ha hcA hrd hwf h h0 hl hm
  have d1 : decide ((n : Int) < L.getD m 0) = false := by rw [decide_eq_false_iff_not]; omega
  generalize L.getD m 0 = y at *
  obtain ⟨g1, x0, x1, x2⟩ := id T1
  have HT := Lib.hid T1
  clear T1
  go_enter Try.func20, Try.ntmps20
  go_wp2_with fail
  refine (MAY.out _ R1.out).mono ?_
  rintro e w1 ⟨rfl, rfl⟩
  go_wp2_with fail
  refine (CK.out _).mono ?_
  rintro e w1 ⟨rfl, hb1⟩
  replace R1 := Lib.hid (R1.out.later hb1)
  replace kk := bstep kk hb1
  clear g1 x0 x1 x2 c1
  obtain ⟨g1, x0, x1, x2⟩ := HT.out.later hb1
  clear hb1
  go_wp2_with fail
  refine (UP.out _ R1.out).mono ?_
  rintro e w2 ⟨v2, rfl, hr2, hb2⟩
  go_wp2_with fail
  go_ret2
  exact ⟨v2, rfl, hr2, bstep kk hb2⟩
end Go.Proofs.Ytcgcakmpjeodfaa
