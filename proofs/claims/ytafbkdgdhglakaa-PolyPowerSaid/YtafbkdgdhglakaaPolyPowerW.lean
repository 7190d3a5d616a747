/-
  The walk of the law PolyPower: whatever the slice and the number, it returns true and changes nothing that was there.
-/
import Derived.Test.YtafbkdgdhglakaaPolyJoin
import Derived.Test.YtafbkdgdhglakaaText
import Derived.Test.YtafbkdgdhglakaaReg
namespace Go.Proofs.Ytafbkdgdhglakaa
open Go.RowKit
set_option linter.unusedVariables false

def rep (n : Nat) (l : List UInt8) : List UInt8 := (List.replicate n l).flatten
theorem rep_add (a b : Nat) (l : List UInt8) : rep (a + b) l = rep a l ++ rep b l := by
  induction a with
  | zero => simp [rep]
  | succ a ih => rw [Nat.succ_add]; unfold rep at *; rw [List.replicate_succ, List.flatten_cons, ih, List.replicate_succ, List.flatten_cons, List.append_assoc]
theorem rep_one (l : List UInt8) : rep 1 l = l := by simp [rep]
theorem rep_succ (a : Nat) (l : List UInt8) : rep (a + 1) l = rep a l ++ l := by rw [rep_add, rep_one]
theorem rep_len (a : Nat) (l : List UInt8) : (rep a l).length = a * l.length := by simp [rep]

set_option maxRecDepth 100000 in
set_option maxHeartbeats 4000000 in
theorem polyPower_walk (w : World) (v0 : Value) (l : List Int) (h0 : Row .i64 w v0 l) (n : Int) (hn : -9223372036854775808 ≤ n ∧ n ≤ 9223372036854775807) :
    Calls Try.prog 4 #[v0, .int .i64 n] w fun e w' => e = .returned (.bool true) ∧ Below w.heap.size w w' := by
  have hp := fun W => picked_any n 30 W hn (by omega) (by omega)
  have hm := Int.emod_nonneg n (show (30 : Int) ≠ 0 by omega)
  have hm2 := Int.emod_lt_of_pos n (show (0 : Int) < 30 by omega)
  generalize n % 30 = y at *
  obtain ⟨k, rfl⟩ : ∃ k : Nat, y = (k : Int) := ⟨y.toNat, by omega⟩
  have HP := Lib.hid hp
  have HT := Lib.hid (fun W (h : Row .i64 W v0 l) => textOf_is v0 l 20 W h (by omega) (by omega))
  clear hp
  have hsz : (⟨((l.take (20 : Int).toNat).map letter).toArray⟩ : ByteArray).size ≤ 20 := by
    show (((l.take 20).map letter).toArray).size ≤ 20
    simp; omega
  generalize (⟨((l.take (20 : Int).toNat).map letter).toArray⟩ : ByteArray) = s at *
  go_enter Try.func4, Try.ntmps4
  go_wp2_with fail
  refine (HT.out _ h0).mono ?_
  rintro e w' ⟨rfl, rfl⟩
  clear HT
  go_wp2_with fail
  refine (HP.out _).mono ?_
  rintro e w' ⟨rfl, rfl⟩
  clear HP
  go_wp2_with fail
  go_loop [7, 8] (fun o i => ∃ (j : Nat) (t : ByteArray), j ≤ k ∧ o = .string t ∧ i = .int .i64 j ∧ t.data.toList = rep j s.data.toList) (fun _ i => k - (intOf i).toNat)
  case atStart => exact ⟨0, ⟨#[]⟩, Nat.zero_le _, rfl, rfl, rfl⟩
  case round =>
    obtain ⟨j, t, hj, rfl, rfl, ht⟩ := hrel
    have tsz : t.size ≤ 600 := by
      have h1 : t.data.toList.length = j * s.data.toList.length := by rw [ht, rep_len]
      have h2 : t.data.toList.length = t.size := by simp
      have h3 : s.data.toList.length = s.size := by simp
      rw [h3] at h1
      have : j * s.size ≤ 30 * 20 := Nat.mul_le_mul (by omega) hsz
      omega
    have HT := Lib.hid ht
    clear ht
    by_cases hlt : j < k
    · go_wp2_with fail
      go_round
      case rel => exact ⟨j + 1, _, by omega, rfl, by go_num, by rw [append_data, HT.out, rep_succ]⟩
      case measure => simp [intOf]; omega
    · obtain rfl : j = k := by omega
      have P0 := Lib.hid (fun W => polyOf_any ⟨#[]⟩ W (small_len _ (by decide)))
      have PS := Lib.hid (fun W => polyOf_any s W (small_len _ (by omega)))
      have pt := fun W => polyOf_any t W (small_len _ (by omega))
      rw [HT.out] at pt
      have PT := Lib.hid pt
      have z0 : hv ([97] : List UInt8) = 98 := by decide
      have z1 : hs ([97] : List UInt8) = 257 := by decide
      clear pt
      go_wp2_with fail
      refine (P0.out _).mono ?_
      rintro e w1 ⟨rfl, hb1⟩
      go_wp2_with fail
      refine (PS.out _).mono ?_
      rintro e w2 ⟨rfl, hb2⟩
      have B9 := (Blk.new w1 23 #[.int .i64 (hv (rep 0 s.data.toList)), .int .i64 (hs (rep 0 s.data.toList))]).below hb2 (by simp)
      have n9 : w1.heap.size < w2.heap.size := by have := hb2.size; simp at this; omega
      have k2 : Below w.heap.size w w2 := bstep (hb1.alloc hb1.size _) hb2
      go_wp2_with fail
      replace B9 := B9.alloc (.cells #[.int .i64 (hv s.data.toList), .int .i64 (hs s.data.toList)] 23)
      have B10 := Blk.new w2 23 #[.int .i64 (hv s.data.toList), .int .i64 (hs s.data.toList)]
      replace k2 := k2.alloc k2.size (.cells #[.int .i64 (hv s.data.toList), .int .i64 (hs s.data.toList)] 23)
      have q9 : w.heap.size ≤ w1.heap.size := hb1.size
      have q10 : w.heap.size ≤ w2.heap.size := by omega
      generalize w2.alloc (.cells #[.int .i64 (hv s.data.toList), .int .i64 (hs s.data.toList)] 23) = W at *
      generalize w2.heap.size = g10 at *
      generalize w1.heap.size = g9 at *
      have i9 : g9 ≠ g10 := by omega
      have i10 : g10 ≠ g9 := by omega
      clear P0 HT tsz hlt hj hsz hb1 hb2 n9
      go_outline
      go_loopw [11] (fun mm wr => ∃ m a t : Nat, m ≤ 30 ∧ a + m * t = j ∧ mm = .int .i64 m ∧ Blk wr g9 23 #[.int .i64 (hv (rep a s.data.toList)), .int .i64 (hs (rep a s.data.toList))] ∧ Blk wr g10 23 #[.int .i64 (hv (rep t s.data.toList)), .int .i64 (hs (rep t s.data.toList))] ∧ Below w.heap.size w wr) (fun mm _ => (intOf mm).toNat)
      case atStart => exact ⟨j, 0, 1, by omega, by omega, rfl, B9, by rw [rep_one]; exact B10, k2⟩
      case round =>
        clear B9 B10 k2
        obtain ⟨m, a, t, hm30, hat, rfl, B9, B10, k2⟩ := hrel
        have c90 : wr.cell? ⟨g9, 0, none⟩ = some (.int .i64 (hv (rep a s.data.toList))) := by rw [B9.cell]; rfl
        have c91 : wr.cell? ⟨g9, 1, none⟩ = some (.int .i64 (hs (rep a s.data.toList))) := by rw [B9.cell]; rfl
        have c100 : wr.cell? ⟨g10, 0, none⟩ = some (.int .i64 (hv (rep t s.data.toList))) := by rw [B10.cell]; rfl
        have c101 : wr.cell? ⟨g10, 1, none⟩ = some (.int .i64 (hs (rep t s.data.toList))) := by rw [B10.cell]; rfl
        have f9 := fun i => B9.frozen i
        have f10 := fun i => B10.frozen i
        have l9 := B9.lt
        have l10 := B10.lt
        by_cases hm0 : 0 < m
        · by_cases hodd : m % 2 = 1
          · have ht1 : ((m : Int) % 2 == 1) = true := by rw [beq_iff_eq]; omega
            have J1 := Lib.hid (fun W => Join_of (rep a s.data.toList) (rep t s.data.toList) W)
            have J2 := Lib.hid (fun W => Join_of (rep t s.data.toList) (rep t s.data.toList) W)
            have HAT := Lib.hid hat
            clear hat
            go_wp2_with fail
            refine (J1.out _).mono ?_
            rintro e w3 ⟨rfl, hb3⟩
            obtain ⟨hc3, hf3⟩ := bcell hb3
            have s9 := Nat.lt_of_lt_of_le l9 hb3.size
            have s10 := Nat.lt_of_lt_of_le l10 hb3.size
            obtain ⟨D9, D10, k3⟩ := two_store B9 B10 i10 hb3 k2 q9 (.int .i64 (hv (rep a s.data.toList ++ rep t s.data.toList))) (.int .i64 (hs (rep a s.data.toList ++ rep t s.data.toList))) (.cells #[.int .i64 (hv (rep a s.data.toList ++ rep t s.data.toList)), .int .i64 (hs (rep a s.data.toList ++ rep t s.data.toList))] 23)
            have D9L := Lib.hid D9
            have D10L := Lib.hid D10
            have K3 := Lib.hid k3
            clear D9 D10 k3
            go_wp2_with fail
            refine (J2.out _).mono ?_
            rintro e w4 ⟨rfl, hb4⟩
            have D9 := D9L.out
            have D10 := D10L.out
            have k3 := K3.out
            clear D9L D10L K3
            generalize ((w3.setCell ⟨g9, 0, none⟩ (.int .i64 (hv (rep a s.data.toList ++ rep t s.data.toList)))).setCell ⟨g9, 1, none⟩ (.int .i64 (hs (rep a s.data.toList ++ rep t s.data.toList)))).alloc (.cells #[.int .i64 (hv (rep a s.data.toList ++ rep t s.data.toList)), .int .i64 (hs (rep a s.data.toList ++ rep t s.data.toList))] 23) = W3 at *
            obtain ⟨E10, E9, k4⟩ := two_store D10 D9 i9 hb4 k3 q10 (.int .i64 (hv (rep t s.data.toList ++ rep t s.data.toList))) (.int .i64 (hs (rep t s.data.toList ++ rep t s.data.toList))) (.cells #[.int .i64 (hv (rep t s.data.toList ++ rep t s.data.toList)), .int .i64 (hs (rep t s.data.toList ++ rep t s.data.toList))] 23)
            have f10' : ∀ i, w4.frozen? ⟨g10, i, none⟩ = false := fun i => (D10.below hb4 D10.lt).frozen i
            have x100 : w4.cell? ⟨g10, 0, none⟩ = some (.int .i64 (hv (rep t s.data.toList))) := by rw [(D10.below hb4 D10.lt).cell]; rfl
            have x101 : w4.cell? ⟨g10, 1, none⟩ = some (.int .i64 (hs (rep t s.data.toList))) := by rw [(D10.below hb4 D10.lt).cell]; rfl
            have l10' := (D10.below hb4 D10.lt).lt
            clear D9 D10 k3 hb4 hb3 hc3 hf3 c90 c91 c100 c101 f9 f10 l9 l10 B9 B10 k2
            have E9L := Lib.hid E9
            have E10L := Lib.hid E10
            have K4 := Lib.hid k4
            clear E9 E10 k4
            go_wp2_with fail
            go_roundw
            case rel => 
              refine ⟨m / 2, a + t, t + t, by omega, ?_, by go_num, by rw [rep_add]; exact E9L.out, by rw [rep_add]; exact E10L.out, K4.out⟩
              rw [← HAT.out]
              obtain ⟨r, rfl⟩ : ∃ r, m = 2 * r + 1 := ⟨m / 2, by omega⟩
              rw [show (2 * r + 1) / 2 = r from by omega, Nat.add_mul, Nat.mul_add, Nat.mul_comm 2 r, Nat.mul_assoc, Nat.two_mul, Nat.mul_add]; omega
            case measure => simp [intOf]; omega
          · have ht1 : ((m : Int) % 2 == 1) = false := by rw [beq_eq_false_iff_ne]; omega
            have J2 := Lib.hid (fun W => Join_of (rep t s.data.toList) (rep t s.data.toList) W)
            have HAT := Lib.hid hat
            clear hat
            go_wp2_with fail
            refine (J2.out _).mono ?_
            rintro e w4 ⟨rfl, hb4⟩
            obtain ⟨E10, E9, k4⟩ := two_store B10 B9 i9 hb4 k2 q10 (.int .i64 (hv (rep t s.data.toList ++ rep t s.data.toList))) (.int .i64 (hs (rep t s.data.toList ++ rep t s.data.toList))) (.cells #[.int .i64 (hv (rep t s.data.toList ++ rep t s.data.toList)), .int .i64 (hs (rep t s.data.toList ++ rep t s.data.toList))] 23)
            have f10' : ∀ i, w4.frozen? ⟨g10, i, none⟩ = false := fun i => (B10.below hb4 B10.lt).frozen i
            have x100 : w4.cell? ⟨g10, 0, none⟩ = some (.int .i64 (hv (rep t s.data.toList))) := by rw [(B10.below hb4 B10.lt).cell]; rfl
            have x101 : w4.cell? ⟨g10, 1, none⟩ = some (.int .i64 (hs (rep t s.data.toList))) := by rw [(B10.below hb4 B10.lt).cell]; rfl
            have l10' := (B10.below hb4 B10.lt).lt
            clear hb4 c90 c91 c100 c101 f9 f10 l9 l10 B9 B10 k2
            have E9L := Lib.hid E9
            have E10L := Lib.hid E10
            have K4 := Lib.hid k4
            clear E9 E10 k4
            go_wp2_with fail
            go_roundw
            case rel => 
              refine ⟨m / 2, a, t + t, by omega, ?_, by go_num, E9L.out, by rw [rep_add]; exact E10L.out, K4.out⟩
              rw [← HAT.out]
              obtain ⟨r, rfl⟩ : ∃ r, m = 2 * r := ⟨m / 2, by omega⟩
              rw [show (2 * r) / 2 = r from by omega, Nat.mul_add, Nat.mul_comm 2 r, Nat.mul_assoc, Nat.two_mul, Nat.mul_add]
            case measure => simp [intOf]; omega
        · obtain rfl : m = 0 := by omega
          have ha : a = j := by omega
          subst ha
          have p97 := fun W => polyOf_any ⟨#[97]⟩ W (small_len _ (by decide))
          rw [show (ByteArray.mk #[97]).data.toList = [97] from rfl, z0, z1] at p97
          have P97 := Lib.hid p97
          clear p97 z0 z1
          have MAY := Lib.hid (fun W => May_of (rep a s.data.toList) W)
          go_wp2_with fail
          refine wp_region_below (by kernel_rfl) (by kernel_rfl) ?_
          intro ι F hne hF hG
          have d0 : ∀ i, (F i).cell? ⟨g9, 0, none⟩ = some (.int .i64 (hv (rep a s.data.toList))) := fun i => ((hF i).cell (p := ⟨g9, 0, none⟩) l9).trans c90
          have d1 : ∀ i, (F i).cell? ⟨g9, 1, none⟩ = some (.int .i64 (hs (rep a s.data.toList))) := fun i => ((hF i).cell (p := ⟨g9, 1, none⟩) l9).trans c91
          repeat go_big_quiet_step (first
            | ((with_reducible refine (P97.out _).mono ?_); rintro e w1 ⟨rfl, hb⟩; exact ⟨rfl, hG _ _ hb⟩)
            | ((with_reducible refine (PT.out _).mono ?_); rintro e w1 ⟨rfl, hb⟩; exact ⟨rfl, hG _ _ hb⟩)
            | ((with_reducible refine (MAY.out _).mono ?_); rintro e w1 ⟨rfl, hb⟩; exact ⟨rfl, hG _ _ hb⟩))
          refine wpQuiet_nil ?_
          intro _ hw'
          obtain ⟨nq, rfl⟩ := hw'
          have hbF := hF nq
          generalize F nq = wz at *
          clear d0 d1 hF hG
          go_wp2_with fail
          go_ret
          exact ⟨rfl, bstep k2 hbF⟩
end Go.Proofs.Ytafbkdgdhglakaa
