/-
  The walk of RopeCopies: at every input it returns true, and nothing that was there is changed.
-/
import Derived.Test.YtddbhoilhapljaaRopeR
import Derived.Test.YtddbhoilhapljaaText
namespace Go.Proofs.Ytddbhoilhapljaa
open Go.RowKit
set_option linter.unusedVariables false

def rep (k : Nat) (s : List UInt8) : List UInt8 := (List.replicate k s).flatten
theorem rep_len (k : Nat) (s : List UInt8) : (rep k s).length = k * s.length := by
  rw [rep, List.length_flatten, List.map_replicate, List.sum_replicate_nat]
theorem rep_succ (k : Nat) (s : List UInt8) : rep (k + 1) s = rep k s ++ s := by
  rw [rep, List.replicate_succ', List.flatten_append]; simp [rep]
def copOps (s : ByteArray) (k : Nat) : List Ro := [⟨1, s, 0, 0, 0, 0⟩, ⟨5, ⟨#[]⟩, 0, 0, 0, k⟩, ⟨5, ⟨#[]⟩, 0, 0, 0, 2⟩, ⟨5, ⟨#[]⟩, 2, 0, 0, 2⟩, ⟨5, ⟨#[]⟩, 0, 0, 0, 4⟩]
theorem step_text (ts : List (List UInt8)) (s : ByteArray) (h : s.size ≤ 600) : stepT ts ⟨1, s, 0, 0, 0, 0⟩ = (ts ++ [s.data.toList], 0) := by
  unfold stepT; rw [if_pos (by simpa [rlen] using h)]; simp [rres]
theorem step_copy (ts : List (List UInt8)) (a n : Nat) (h : ((lens ts).getD a 0) * n ≤ 600) : stepT ts ⟨5, ⟨#[]⟩, a, 0, 0, n⟩ = (ts ++ [rep n (ts.getD a [])], 0) := by
  unfold stepT; rw [if_pos (by simpa [rlen] using h)]; simp [rres, rep]
theorem copies (s : ByteArray) (k : Nat) (hs : s.size ≤ 60) (hk : k ≤ 4) :
    (runT [] (copOps s k)).1 = [s.data.toList, rep k s.data.toList, rep 2 s.data.toList, rep 4 s.data.toList, rep 4 s.data.toList] ∧ vldT [] (copOps s k) := by
  have hl : s.data.toList.length = s.size := by simp
  have h4 : s.size * k ≤ 60 * 4 := Nat.mul_le_mul hs hk
  have hd : rep 2 (rep 2 s.data.toList) = rep 4 s.data.toList := by simp [rep, List.replicate]
  have e1 : stepT [] ⟨1, s, 0, 0, 0, 0⟩ = ([s.data.toList], 0) := step_text [] s (by omega)
  have e2 := step_copy [s.data.toList] 0 k (by simp [lens]; omega)
  have e3 := step_copy ([s.data.toList] ++ [rep k s.data.toList]) 0 2 (by simp [lens]; omega)
  have e4 := step_copy ([s.data.toList] ++ [rep k s.data.toList] ++ [rep 2 s.data.toList]) 2 2 (by simp [lens, rep_len]; omega)
  have e5 := step_copy ([s.data.toList] ++ [rep k s.data.toList] ++ [rep 2 s.data.toList] ++ [rep 2 (rep 2 s.data.toList)]) 0 4 (by simp [lens]; omega)
  simp only [List.cons_append, List.nil_append, List.getD_cons_zero, List.getD_cons_succ] at e2 e3 e4 e5
  rw [hd] at e4 e5
  have h0 : (⟨#[]⟩ : ByteArray).size = 0 := rfl
  constructor
  · simp only [copOps, runT, e1, e2, e3, e4, e5]
  · simp only [copOps, vldT, e1, e2, e3, e4]
    simp [rok, lens]
    omega
set_option maxRecDepth 100000 in
set_option maxHeartbeats 8000000 in
theorem ropeCopies_walk (w : World) (v0 : Value) (l : List Int) (h0 : Row .i64 w v0 l) (n : Int) (hn : -9223372036854775808 ≤ n ∧ n ≤ 9223372036854775807) :
    Calls Try.prog 10 #[v0, .int .i64 n] w fun e w' => e = .returned (.bool true) ∧ Below w.heap.size w w' := by
  have hp := picked_any n 5 w hn (by omega) (by omega)
  have hm := Int.emod_nonneg n (show (5 : Int) ≠ 0 by omega)
  have hm2 := Int.emod_lt_of_pos n (show (0 : Int) < 5 by omega)
  generalize n % 5 = y at *
  obtain ⟨k, rfl⟩ : ∃ k : Nat, y = (k : Int) := ⟨y.toNat, by omega⟩
  have HP := Lib.hid hp
  have hk : k ≤ 4 := by omega
  have hT := textOf_is v0 l 60 w h0 (by omega) (by omega)
  have hsz : (⟨((l.take (60 : Int).toNat).map letter).toArray⟩ : ByteArray).size ≤ 60 := by
    show (((l.take 60).map letter).toArray).size ≤ 60
    simp; omega
  generalize (⟨((l.take (60 : Int).toNat).map letter).toArray⟩ : ByteArray) = s at *
  have HT := Lib.hid hT
  obtain ⟨A0, c0, rfl, _⟩ := h0
  clear hp hT
  obtain ⟨hc1, hc2⟩ := copies s k hsz hk
  have HX := Lib.hid (roped_any _ (copOps s k) (w.alloc (.cells (cellsOf roc (copOps s k)).toArray 66)) (CRow.lit roc_len w 66 (copOps s k) (show 5 ≤ maxLen by decide)) (show 5 ≤ 80 by decide) hc2)
  have HC1 := Lib.hid hc1
  clear hc1 hc2
  go_enter Try.func10, Try.ntmps10
  go_wp2_with fail
  refine HP.out.mono ?_
  rintro e w' ⟨rfl, rfl⟩
  go_wp2_with fail
  refine HT.out.mono ?_
  rintro e w' ⟨rfl, rfl⟩
  go_wp2_with fail
  refine HX.out.mono ?_
  rintro e w1 ⟨va, rfl, hva, hb⟩
  rw [HC1.out] at hva
  obtain ⟨g, c3, rfl, hg, hgl⟩ := hva.form (show 0 < 5 by decide)
  have hx1 : w1.cell? ⟨g, 1, none⟩ = some (bytesV (rep k s.data.toList)) := hva.cells (g := g) rfl 1 _ rfl
  have hx3 : w1.cell? ⟨g, 3, none⟩ = some (bytesV (rep 4 s.data.toList)) := hva.cells (g := g) rfl 3 _ rfl
  have hx4 : w1.cell? ⟨g, 4, none⟩ = some (bytesV (rep 4 s.data.toList)) := hva.cells (g := g) rfl 4 _ rfl
  have hfive : [s.data.toList, rep k s.data.toList, rep 2 s.data.toList, rep 4 s.data.toList, rep 4 s.data.toList].length = 5 := rfl
  rw [hfive]
  unfold bytesV at hx1 hx3 hx4
  generalize ht1 : (⟨(rep k s.data.toList).toArray⟩ : ByteArray) = t1 at *
  generalize (⟨(rep 4 s.data.toList).toArray⟩ : ByteArray) = t4 at *
  have HT1 := Lib.hid ht1
  have HB := Lib.hid (bstep_alloc hb)
  have hk0 : (0 : Int) ≤ (k : Int) := by omega
  clear hva hb HX HP HT HC1 hfive ht1
  go_wp2_with fail
  go_quiet (fail)
  go_wp2_with fail
  have hbd := below_drewN (Below.refl w1.heap.size w1) nq
  generalize w1.drewN nq = W at *
  go_loopw [9, 10] (fun a i wr => ∃ (j : Nat) (t : ByteArray), j ≤ k ∧ i = .int .i64 j ∧ a = .string t ∧ Hid (t.data.toList = rep j s.data.toList) ∧ Below w1.heap.size w1 wr) (fun _ i _ => k - (intOf i).toNat)
  case atStart => exact ⟨0, ⟨#[]⟩, Nat.zero_le _, rfl, rfl, Lib.hid (by simp [rep]), hbd⟩
  case round =>
    clear hbd
    obtain ⟨j, t, hj, rfl, rfl, ht, hb⟩ := hrel
    by_cases hlt : j < k
    · have h2 : t.size ≤ 240 := by
        have e1 : t.data.toList.length = t.size := by simp
        have e2 : s.data.toList.length = s.size := by simp
        rw [← e1, ht.out, rep_len, e2]
        exact Nat.mul_le_mul (show j ≤ 4 by omega) hsz
      have hadd : ¬ 9223372036854775807 < t.size + s.size := by omega
      go_wp2_with fail
      go_roundw
      case rel => exact ⟨j + 1, t ++ s, by omega, by go_num, rfl, Lib.hid (by simp [ht.out, rep_succ]), hb⟩
      case measure => simp [intOf]; omega
    · obtain rfl : j = k := by omega
      obtain rfl : t = t1 := bytes_ext (by rw [ht.out, ← HT1.out])
      have hc := (hb.cell (p := ⟨g, 1, none⟩) hgl).trans hx1
      have HB2 := Lib.hid (bstep HB.out hb)
      clear hb
      go_wp2_with fail
      go_ret
      exact ⟨rfl, HB2.out⟩
end Go.Proofs.Ytddbhoilhapljaa
