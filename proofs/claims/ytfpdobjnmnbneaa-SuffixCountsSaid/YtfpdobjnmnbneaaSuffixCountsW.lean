/-
  The walk of SuffixCounts: as many texts stand in a text turned round; a byte more makes at least one more, and at most as many as it is long.
-/
import Derived.Test.YtfpdobjnmnbneaaUnl
import Derived.Test.YtfpdobjnmnbneaaSubP
import Derived.Test.YtfpdobjnmnbneaaFew
namespace Go.Proofs.Ytfpdobjnmnbneaa
open Go.RowKit
set_option linter.unusedVariables false
set_option linter.unusedSimpArgs false

def UnlikePost2 (S : List UInt8) (w : World) (e : Ending) (w' : World) : Prop := ∃ L : List (List UInt8), L.Nodup ∧ (∀ x, x ∈ L ↔ Subs S x) ∧ L.length ≤ S.length * (S.length + 1) / 2 ∧ e = .returned (.tuple #[.int .i64 (L.length : Int), .int .i64 0]) ∧ Below w.heap.size w w'
theorem unlike2_any (s : ByteArray) (hs : s.size ≤ 600) (w : World) : Calls Try.prog 19 #[.string s] w (UnlikePost2 s.data.toList w) := by
  refine (unlike_any s hs w).mono ?_
  rintro e w' ⟨o, p, HE, rfl, HB⟩
  have hS : s.data.toList.length = s.size := by simp
  obtain ⟨L, h1, h2, h3⟩ := unlike_list hS HE
  exact ⟨L, h1, h2, by rw [hS]; omega, by rw [h3], HB⟩
set_option maxRecDepth 100000 in
set_option maxHeartbeats 4000000 in
theorem suffixCounts_walk (w : World) (v : Value) (xs : List Int) (hr : Row .i64 w v xs) (b : Int) (hb : -9223372036854775808 ≤ b ∧ b ≤ 9223372036854775807) :
    Calls Try.prog 5 #[v, .int .i64 b] w fun e w' => e = .returned (.bool true) ∧ Below w.heap.size w w' := by
  have FW := Lib.hid (few_any v xs 60 w hr (by omega) (by omega))
  go_enter Try.func5, Try.ntmps5
  go_wp2_with fail
  refine FW.out.mono ?_
  rintro e w1 ⟨s, rfl, hs0, HB⟩
  have hz0 : s.size ≤ 60 := by
    have h1 : s.data.toList.length = s.size := by simp
    have h2 := congrArg List.length hs0
    rw [h1, List.length_map, List.length_take] at h2
    have : Int.toNat 60 = 60 := rfl
    omega
  clear hs0 FW
  go_wp2_with fail
  go_loopw [6, 7] (fun vt vi W => ∃ (k : Nat) (t : ByteArray), k ≤ s.size ∧ vi = .int .i64 (k : Int) ∧ vt = .string t ∧ t.data.toList = (s.data.toList.take k).reverse ∧ W = w1) (fun _ vi _ => s.size - (intOf vi).toNat)
  case atStart => exact ⟨0, ⟨#[]⟩, Nat.zero_le _, rfl, rfl, rfl, rfl⟩
  case round =>
    obtain ⟨k, t, hk, rfl, rfl, ht, rfl⟩ := hrel
    have htz : t.size = k := by
      have := congrArg List.length ht
      simp at this; omega
    have HT := Lib.hid ht
    clear ht
    by_cases hlt : k < s.size
    · have i0 : (0 : Int) ≤ (k : Int) := by omega
      have i1 : (k : Int) ≤ (s.size : Int) := by omega
      have i2 : (k : Int) + 1 ≤ (s.size : Int) := by omega
      have hx : ((s.extract k (k + 1)).size : Nat) = 1 := by rw [ByteArray.size_extract]; omega
      go_wp2_with fail
      refine ⟨⟨k + 1, _, by omega, by go_num, rfl, ?_, trivial⟩, by simp [intOf]; omega⟩
      rw [append_data, HT.out, take_snoc s k hlt, List.reverse_append]
      congr 1
      have e : (s.extract k (k + 1)).data.toList = (s.data.toList.drop k).take 1 := by
        simp only [ByteArray.data_extract, Array.toList_extract, List.extract]
        rw [show k + 1 - k = 1 by omega]
      rw [e, List.drop_eq_getElem_cons (by simpa using hlt)]
      rfl
    · obtain rfl : k = s.size := by omega
      have ht : t.data.toList = s.data.toList.reverse := by rw [HT.out, take_all s s.size (Nat.le_refl _)]
      have HT2 := Lib.hid ht
      clear ht HT
      go_wp2_with fail
      refine (unlike2_any s (by omega) _).mono ?_
      rintro e w2 ⟨L, l1, l2, l3, rfl, HB2⟩
      go_wp2_with fail
      refine (unlike2_any t (by omega) _).mono ?_
      rintro e w3 ⟨M, m1, m2, m3, rfl, HB3⟩
      have HBB := bstep (bstep HB HB2) HB3
      have hN : L.length = M.length := subs_turned l1 l2 m1 (fun x => by rw [m2, HT2.out])
      have HL1 := Lib.hid l1
      have HL2 := Lib.hid l2
      have hS : s.data.toList.length = s.size := by simp
      rw [hS] at l3
      clear l1 l2 m1 m2 m3 HB HB2 HB3 HT2 hS
      obtain ⟨N, hNN⟩ : ∃ N, L.length = N := ⟨_, rfl⟩
      have hM : M.length = N := by omega
      rw [hNN] at l3
      rw [hNN, hM]
      have HNN := Lib.hid hNN
      clear hN hM hNN
      have l6 : w.heap.size ≤ w3.heap.size := HBB.size
      rcases Int.emod_two_eq b with hx | hx
      · have H3 := Lib.hid hx
        go_wp2_with (go_at_call 18; refine (picked_any b 2 _ hb (by omega) (by omega)).mono ?_; rintro e w' ⟨rfl, rfl⟩)
        have hsz : (s ++ (⟨#[97]⟩ : ByteArray)).size ≤ 600 := by rw [ByteArray.size_append, size_one]; omega
        have hsd : (s ++ (⟨#[97]⟩ : ByteArray)).data.toList = s.data.toList ++ [97] := by rw [append_data]
        generalize s ++ (⟨#[97]⟩ : ByteArray) = s2 at *
        refine (unlike2_any s2 hsz _).mono ?_
        rintro e w4 ⟨K, k1, k2, k3, rfl, HB4⟩
        have HB5 := bstep (HBB.alloc l6 _) HB4
        have sm := subs_more (S := s.data.toList) 97 HL1.out HL2.out k1 (fun x => by rw [k2, hsd])
        rw [HNN.out] at sm
        obtain ⟨N2, hN2⟩ : ∃ N2, K.length = N2 := ⟨_, rfl⟩
        rw [hN2] at sm
        rw [hN2]
        have hS : s.data.toList.length = s.size := by simp
        rw [hS] at sm
        obtain ⟨sm1, sm2⟩ := sm
        obtain ⟨m, hm⟩ : ∃ m : Nat, s.size * (s.size + 1) = m := ⟨_, rfl⟩
        have hmb : m ≤ 400000 := by
          rw [← hm]
          have : s.size * (s.size + 1) ≤ 600 * 601 := Nat.mul_le_mul (by omega) (by omega)
          omega
        have hN1 : N ≤ m / 2 := by rw [← hm]; exact l3
        have hNb : N ≤ 200000 := by omega
        have em : (s.size : Int) * ((s.size : Int) + 1) = (m : Int) := by rw [← hm, Int.natCast_mul]; rfl
        have p1 : 0 ≤ (s.size : Int) * ((s.size : Int) + 1) := by rw [em]; omega
        have p2 : (s.size : Int) * ((s.size : Int) + 1) ≤ 400000 := by rw [em]; omega
        have f1 : (N : Int) ≤ (s.size : Int) * ((s.size : Int) + 1) / 2 := by rw [em]; omega
        have f2 : (N : Int) < (N2 : Int) := by omega
        have f3 : (N2 : Int) ≤ (N : Int) + (s.size : Int) + 1 := by omega
        clear hN1 em
        clear hm hN2 hS k1 k2 k3 hsz hsd l3 sm1 sm2
        have HB6 := Lib.hid HB5
        clear HB4 HB5 hmb
        go_wp2_with fail
        go_ret
        exact ⟨rfl, HB6.out⟩
      · have H3 := Lib.hid hx
        go_wp2_with (go_at_call 18; refine (picked_any b 2 _ hb (by omega) (by omega)).mono ?_; rintro e w' ⟨rfl, rfl⟩)
        have hsz : (s ++ (⟨#[98]⟩ : ByteArray)).size ≤ 600 := by rw [ByteArray.size_append, size_one]; omega
        have hsd : (s ++ (⟨#[98]⟩ : ByteArray)).data.toList = s.data.toList ++ [98] := by rw [append_data]
        generalize s ++ (⟨#[98]⟩ : ByteArray) = s2 at *
        refine (unlike2_any s2 hsz _).mono ?_
        rintro e w4 ⟨K, k1, k2, k3, rfl, HB4⟩
        have HB5 := bstep (HBB.alloc l6 _) HB4
        have sm := subs_more (S := s.data.toList) 98 HL1.out HL2.out k1 (fun x => by rw [k2, hsd])
        rw [HNN.out] at sm
        obtain ⟨N2, hN2⟩ : ∃ N2, K.length = N2 := ⟨_, rfl⟩
        rw [hN2] at sm
        rw [hN2]
        have hS : s.data.toList.length = s.size := by simp
        rw [hS] at sm
        obtain ⟨sm1, sm2⟩ := sm
        obtain ⟨m, hm⟩ : ∃ m : Nat, s.size * (s.size + 1) = m := ⟨_, rfl⟩
        have hmb : m ≤ 400000 := by
          rw [← hm]
          have : s.size * (s.size + 1) ≤ 600 * 601 := Nat.mul_le_mul (by omega) (by omega)
          omega
        have hN1 : N ≤ m / 2 := by rw [← hm]; exact l3
        have hNb : N ≤ 200000 := by omega
        have em : (s.size : Int) * ((s.size : Int) + 1) = (m : Int) := by rw [← hm, Int.natCast_mul]; rfl
        have p1 : 0 ≤ (s.size : Int) * ((s.size : Int) + 1) := by rw [em]; omega
        have p2 : (s.size : Int) * ((s.size : Int) + 1) ≤ 400000 := by rw [em]; omega
        have f1 : (N : Int) ≤ (s.size : Int) * ((s.size : Int) + 1) / 2 := by rw [em]; omega
        have f2 : (N : Int) < (N2 : Int) := by omega
        have f3 : (N2 : Int) ≤ (N : Int) + (s.size : Int) + 1 := by omega
        clear hN1 em
        clear hm hN2 hS k1 k2 k3 hsz hsd l3 sm1 sm2
        have HB6 := Lib.hid HB5
        clear HB4 HB5 hmb
        go_wp2_with fail
        go_ret
        exact ⟨rfl, HB6.out⟩
end Go.Proofs.Ytfpdobjnmnbneaa
