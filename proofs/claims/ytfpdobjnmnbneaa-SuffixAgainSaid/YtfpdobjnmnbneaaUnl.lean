/-
  The walks of suffix.Unlike and suffix.Again.
-/
import Derived.Test.YtfpdobjnmnbneaaSufF
import Derived.Test.YtfpdobjnmnbneaaAgnP
namespace Go.Proofs.Ytfpdobjnmnbneaa
open Go.RowKit
set_option linter.unusedVariables false
set_option linter.unusedSimpArgs false

theorem cmn_le {S : List UInt8} {n : Nat} (hS : S.length = n) {o : Nat → Nat} (k : Nat) : cmn S o k ≤ n := by
  unfold cmn
  split
  · omega
  · have := (lcp_le (S.drop (o k)) (S.drop (o (k - 1)))).1
    rw [List.length_drop] at this; omega
def UnlikePost (S : List UInt8) (n : Nat) (w : World) (e : Ending) (w' : World) : Prop := ∃ (o p : Nat → Nat), EndsUp S n o p ∧ e = .returned (.tuple #[.int .i64 (((n * (n + 1) / 2 : Nat) : Int) - (csum (cmn S o) n : Int)), .int .i64 0]) ∧ Below w.heap.size w w'
set_option maxHeartbeats 4000000 in
theorem unlike_any (s : ByteArray) (hs : s.size ≤ 600) (w : World) : Calls Try.prog 19 #[.string s] w (UnlikePost s.data.toList s.size w) := by
  have FK := Lib.hid (fun W => sufFault_ok s hs W)
  have SA := Lib.hid (fun W => sortedA_any s (by omega) W)
  have CA := Lib.hid (fun g o p HE W RG => common_any s (by omega) g o p HE W RG)
  obtain ⟨m, hm⟩ : ∃ m : Nat, s.size * (s.size + 1) = m := ⟨_, rfl⟩
  obtain ⟨q, hq⟩ : ∃ q : Nat, m / 2 = q := ⟨_, rfl⟩
  have hmb : m ≤ 400000 := by
    rw [← hm]
    have : s.size * (s.size + 1) ≤ 600 * 601 := Nat.mul_le_mul (by omega) (by omega)
    omega
  have w2 : wrap64 ((s.size : Int) * ((s.size : Int) + 1)) = (m : Int) := by
    have e : (s.size : Int) * ((s.size : Int) + 1) = (m : Int) := by rw [← hm, Int.natCast_mul]; rfl
    rw [e]
    exact IntWalk.wrap64_in _ (by omega)
  have hqb : q ≤ 400000 := by omega
  have HM := Lib.hid hm
  have HQ := Lib.hid hq
  clear hm hq
  go_enter Try.func19, Try.ntmps19
  go_wp2_with fail
  refine (FK.out _).mono ?_
  rintro e w1 ⟨rfl, rfl⟩
  go_wp2_with fail
  have hq3 : (m : Int) / 2 = (q : Int) := by have := HQ.out; omega
  rw [hq3]
  clear w2 hq3
  refine (SA.out _).mono ?_
  rintro e w2 ⟨g, o, p, rfl, hg, HE, RG, HB⟩
  go_wp2_with fail
  refine (CA.out g o p HE _ RG).mono ?_
  rintro e w3 ⟨h, rfl, hh, RH, HB2⟩
  have HBB := bstep HB HB2
  have HEE := Lib.hid HE
  have hh3 : w1.heap.size ≤ w3.heap.size := HBB.size
  clear RG HB HB2 HE CA SA FK
  go_wp2_with fail
  have hcs : Hid (∀ k, k < s.size → cmn s.data.toList o k ≤ s.size) := Lib.hid (fun k _ => cmn_le (by simp) k)
  go_loopw [5, 7, 25] (fun vn _ vi W => ∃ k : Nat, k ≤ s.size ∧ vi = .int .i64 (k : Int) ∧ vn = .int .i64 ((q : Int) - (csum (cmn s.data.toList o) k : Int)) ∧ W = w3) (fun _ _ vi _ => s.size - (intOf vi).toNat)
  case atStart => exact ⟨0, Nat.zero_le _, rfl, by simp [csum], rfl⟩
  case round =>
    obtain ⟨k, hk, rfl, rfl, rfl⟩ := hrel
    by_cases hlt : k < s.size
    · have i0 : (0 : Int) ≤ (k : Int) := by omega
      have i1 : (k : Int) < (s.size : Int) := by omega
      have a1 := RH.cell hlt
      have b1 := csum_le (cmn s.data.toList o) s.size s.size (k + 1) hcs.out (by omega)
      have b2 : (k + 1) * s.size ≤ 600 * 600 := Nat.mul_le_mul (by omega) (by omega)
      rw [csum_succ] at b1
      obtain ⟨C, hC⟩ : ∃ C, cmn s.data.toList o k = C := ⟨_, rfl⟩
      obtain ⟨Z, hZ⟩ : ∃ Z, csum (cmn s.data.toList o) k = Z := ⟨_, rfl⟩
      have HZ : Hid (csum (cmn s.data.toList o) (k + 1) = Z + C) := Lib.hid (by rw [csum_succ, hC, hZ])
      rw [hC] at a1 b1
      rw [hZ] at b1 ⊢
      have b3 : Z + C ≤ 360000 := by omega
      clear hC hZ b1 b2
      go_wp2_with fail
      exact ⟨⟨k + 1, by omega, by go_num, by rw [HZ.out]; congr 1; omega, trivial⟩, by simp [intOf]; omega⟩
    · obtain rfl : k = s.size := by omega
      go_wp2_with fail
      go_ret2
      have e : s.size * (s.size + 1) / 2 = q := by rw [HM.out, HQ.out]
      exact ⟨o, p, HEE.out, by rw [e]; rfl, HBB⟩
def AgainPost (S : List UInt8) (n : Nat) (w : World) (e : Ending) (w' : World) : Prop := ∃ (o p : Nat → Nat), EndsUp S n o p ∧ e = .returned (.tuple #[.int .i64 ((agn (cmn S o) o n).1 : Int), .int .i64 ((agn (cmn S o) o n).2 : Int), .int .i64 0]) ∧ Below w.heap.size w w'
set_option maxHeartbeats 4000000 in
theorem again_any (s : ByteArray) (hs : s.size ≤ 600) (w : World) : Calls Try.prog 17 #[.string s] w (AgainPost s.data.toList s.size w) := by
  have FK := Lib.hid (fun W => sufFault_ok s hs W)
  have SA := Lib.hid (fun W => sortedA_any s (by omega) W)
  have CA := Lib.hid (fun g o p HE W RG => common_any s (by omega) g o p HE W RG)
  go_enter Try.func17, Try.ntmps17
  go_wp2_with fail
  refine (FK.out _).mono ?_
  rintro e w1 ⟨rfl, rfl⟩
  go_wp2_with fail
  refine (SA.out _).mono ?_
  rintro e w2 ⟨g, o, p, rfl, hg, HE, RG, HB⟩
  go_wp2_with fail
  refine (CA.out g o p HE _ RG).mono ?_
  rintro e w3 ⟨h, rfl, hh, RH, HB2⟩
  have HBB := bstep HB HB2
  have RG3 := rowIs_later RG HB2
  have HEE := Lib.hid HE
  clear RG HB HB2 HE CA SA FK
  go_wp2_with fail
  go_loopw [2, 3, 7, 8, 9, 21] (fun va vl _ _ _ vi W => ∃ k : Nat, k ≤ s.size ∧ vi = .int .i64 (k : Int) ∧ va = .int .i64 ((agn (cmn s.data.toList o) o k).1 : Int) ∧ vl = .int .i64 ((agn (cmn s.data.toList o) o k).2 : Int) ∧ W.rowIs g 3 s.size (fun k => .int .i64 (o k : Int)) ∧ W.rowIs h 3 s.size (fun k => .int .i64 (cmn s.data.toList o k : Int)) ∧ Below w1.heap.size w1 W) (fun _ _ _ _ _ vi _ => s.size - (intOf vi).toNat)
  case atStart => exact ⟨0, Nat.zero_le _, rfl, rfl, rfl, RG3, RH, HBB⟩
  case round =>
    clear RG3 RH HBB
    obtain ⟨k, hk, rfl, rfl, rfl, RG, RH, HB⟩ := hrel
    by_cases hlt : k < s.size
    · have i0 : (0 : Int) ≤ (k : Int) := by omega
      have i1 : (k : Int) < (s.size : Int) := by omega
      have a1 := RH.cell hlt
      have cb := cmn_le (S := s.data.toList) (n := s.size) (o := o) (by simp) k
      have ab := agn_le (cmn s.data.toList o) o k s.size s.size (fun j _ => cmn_le (by simp) j) (fun j hj => Nat.le_of_lt (HEE.out.1 j (by omega)).1)
      have HS : Hid (agn (cmn s.data.toList o) o (k + 1) = if cmn s.data.toList o k = 0 then agn (cmn s.data.toList o) o k else if (agn (cmn s.data.toList o) o k).2 < cmn s.data.toList o k ∨ (cmn s.data.toList o k = (agn (cmn s.data.toList o) o k).2 ∧ min (o k) (o (k - 1)) < (agn (cmn s.data.toList o) o k).1) then (min (o k) (o (k - 1)), cmn s.data.toList o k) else agn (cmn s.data.toList o) o k) := Lib.hid rfl
      have c0 : Hid (k = 0 → cmn s.data.toList o k = 0) := Lib.hid (fun e => by unfold cmn; rw [if_pos e])
      obtain ⟨C, hC⟩ : ∃ C, cmn s.data.toList o k = C := ⟨_, rfl⟩
      obtain ⟨at_, hat⟩ : ∃ a, (agn (cmn s.data.toList o) o k).1 = a := ⟨_, rfl⟩
      obtain ⟨lg, hlg⟩ : ∃ l, (agn (cmn s.data.toList o) o k).2 = l := ⟨_, rfl⟩
      have hpair : Hid (agn (cmn s.data.toList o) o k = (at_, lg)) := Lib.hid (by rw [← hat, ← hlg])
      rw [hC, hat, hlg] at HS
      rw [hC] at a1 cb c0
      rw [hat, hlg] at ab
      rw [hat, hlg]
      obtain ⟨ab1, ab2⟩ := ab
      clear hC hat hlg
      by_cases hz : C = 0
      · have z1 : ((C : Int) == 0) = true := beq_iff_eq.2 (by omega)
        have HZ := Lib.hid hz
        clear hz
        go_wp2_with fail
        refine ⟨⟨k + 1, by omega, by go_num, ?_, ?_, RG, RH, HB⟩, by simp [intOf]; omega⟩
        · rw [HS.out, if_pos HZ.out, hpair.out]
        · rw [HS.out, if_pos HZ.out, hpair.out]
      · have z1 : ((C : Int) == 0) = false := beq_eq_false_iff_ne.2 (by omega)
        have hk0 : k ≠ 0 := fun e => hz (c0.out e)
        obtain ⟨km, hkm⟩ : ∃ km, k - 1 = km := ⟨_, rfl⟩
        have hwk : IntKind.i64.wrap ((k : Int) - 1) = (km : Int) := by rw [IntWalk.i64_in _ (by omega)]; omega
        have j0 : (0 : Int) ≤ (km : Int) := by omega
        have j1 : (km : Int) < (s.size : Int) := by omega
        have a2 := RG.cell hlt
        have a3 := RG.cell (show km < s.size by omega)
        rw [hkm] at HS
        obtain ⟨oi, hoi⟩ : ∃ oi, o k = oi := ⟨_, rfl⟩
        obtain ⟨ol, hol⟩ : ∃ ol, o km = ol := ⟨_, rfl⟩
        rw [hoi] at a2
        rw [hol] at a3
        rw [hoi, hol] at HS
        have HZ := Lib.hid hz
        clear hkm hoi hol hz
        go_wp2_with fail
        go_region
        go_wp2_with fail
        all_goals refine ⟨⟨k + 1, by omega, by go_num, ?_, ?_, RG, RH, HB.drew⟩, by simp [intOf]; omega⟩
        all_goals rw [HS.out, if_neg HZ.out]
        all_goals first
          | (rw [if_pos (by omega)]; (try (show _ = Value.int .i64 ((min oi ol : Nat) : Int))); congr 1; omega)
          | (rw [if_pos (by omega)])
          | (rw [if_neg (by omega), hpair.out])
    · obtain rfl : k = s.size := by omega
      go_wp2_with fail
      go_ret3
      exact ⟨o, p, HEE.out, rfl, HB⟩
end Go.Proofs.Ytfpdobjnmnbneaa
