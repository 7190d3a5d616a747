/-
  The walks of poly.Of: it returns the polynomial hash of the text, and changes no memory that was there. Conditions: the text has at most maxLen bytes.
-/
import Derived.Test.YtpjpckhmjonehaaDoorBase
import Derived.RegionTactic
import Derived.ChangeAlike
namespace Go.Proofs.YtpjpckhmjonehaaDoor
open Go.RowKit
set_option linter.unusedVariables false

def hv (l : List UInt8) : Int := l.foldl (fun v c => (v * 257 + (c.toNat : Int) + 1) % 2147483647) 0
def hs (l : List UInt8) : Int := l.foldl (fun s _ => s * 257 % 2147483647) 1
theorem hv_snoc (l : List UInt8) (c : UInt8) : hv (l ++ [c]) = (hv l * 257 + (c.toNat : Int) + 1) % 2147483647 := by simp [hv]
theorem hs_snoc (l : List UInt8) (c : UInt8) : hs (l ++ [c]) = hs l * 257 % 2147483647 := by simp [hs]
theorem hv_bd (l : List UInt8) : 0 ≤ hv l ∧ hv l < 2147483647 := by
  rcases List.eq_nil_or_concat l with rfl | ⟨k, c, rfl⟩
  · simp [hv]
  · rw [List.concat_eq_append, hv_snoc]; omega
theorem hs_bd (l : List UInt8) : 0 ≤ hs l ∧ hs l < 2147483647 := by
  rcases List.eq_nil_or_concat l with rfl | ⟨k, c, rfl⟩
  · simp [hs]
  · rw [List.concat_eq_append, hs_snoc]; omega

@[go_sem] theorem hash_f0 (x y : Value) (w : World) : (Instr.field 36 (.agg #[x, y]) 0).run Tryd.prog w = .ok x w := by kernel_rfl
@[go_sem] theorem hash_f1 (x y : Value) (w : World) : (Instr.field 36 (.agg #[x, y]) 1).run Tryd.prog w = .ok y w := by kernel_rfl
theorem coprime257 (d : Int) (h : d * 257 % 2147483647 = 0) : d % 2147483647 = 0 := by omega
theorem hs_mul (m : List UInt8) : ∀ d : Int, d * hs m % 2147483647 = 0 → d % 2147483647 = 0 := by
  induction m using snoc_ind with
  | h0 => intro d h; simpa [hs] using h
  | h1 l c ih =>
    intro d h
    rw [hs_snoc] at h
    refine ih d ?_
    refine coprime257 _ ?_
    rw [← h, Int.mul_assoc, Int.mul_emod, Int.mul_emod d]
    simp
theorem hv_append (l m : List UInt8) : hv (l ++ m) = (hv l * hs m + hv m) % 2147483647 := by
  induction m using snoc_ind with
  | h0 =>
    have h := hv_bd l
    have h0 : hv [] = 0 := rfl
    have h1 : hs [] = 1 := rfl
    rw [h0, h1, List.append_nil]; omega
  | h1 m c ih =>
    rw [← List.append_assoc, hv_snoc, hv_snoc, hs_snoc, ih]
    generalize hv l = a
    generalize hs m = b
    generalize hv m = d
    have e1 : a * (b * 257 % 2147483647) % 2147483647 = a * b * 257 % 2147483647 := by rw [Int.mul_assoc, Int.mul_emod, Int.mul_emod a]; simp
    generalize hp : a * b = p at e1 ⊢
    generalize hq : a * (b * 257 % 2147483647) = q at e1 ⊢
    omega
theorem hs_append (l m : List UInt8) : hs (l ++ m) = hs l * hs m % 2147483647 := by
  induction m using snoc_ind with
  | h0 =>
    have h := hs_bd l
    have h1 : hs [] = 1 := rfl
    rw [h1, List.append_nil]; omega
  | h1 m c ih =>
    rw [← List.append_assoc, hs_snoc, hs_snoc, ih]
    generalize hs l = a
    generalize hs m = b
    have e1 : a * (b * 257 % 2147483647) % 2147483647 = a * b * 257 % 2147483647 := by rw [Int.mul_assoc, Int.mul_emod, Int.mul_emod a]; simp
    rw [e1]; omega
theorem hs_pos (l : List UInt8) : 0 < hs l := by
  have h := hs_bd l
  by_cases h0 : hs l = 0
  · have := hs_mul l 1 (by rw [h0]; rfl)
    simp at this
  · omega

set_option maxHeartbeats 400000 in
theorem polyOf_any (s : ByteArray) (w : World) (hs' : s.size ≤ maxLen) :
    Calls Tryd.prog 10 #[.string s] w fun e w' => e = .returned (.agg #[.int .i64 (hv s.data.toList), .int .i64 (hs s.data.toList)]) ∧ Below w.heap.size w w' := by
  unfold maxLen at hs'
  go_enter Tryd.func10, Tryd.ntmps10
  go_wp2
  go_loopw [8] (fun i wr => ∃ k n : Nat, k ≤ s.size ∧ i = .int .i64 k ∧ wr = (((w.alloc (Obj.cells #[.int .i64 0, .int .i64 0] 36)).alloc (Obj.cells #[.int .i64 (hv (s.data.toList.take k)), .int .i64 (hs (s.data.toList.take k))] 36)).drewN n)) (fun i _ => s.size - (intOf i).toNat)
  case atStart => exact ⟨0, 0, Nat.zero_le _, rfl, rfl⟩
  case round =>
    obtain ⟨k, n, hk, rfl, rfl⟩ := hrel
    have b1 := hv_bd (s.data.toList.take k)
    have b2 := hs_bd (s.data.toList.take k)
    by_cases hlt : k < s.size
    · have hsn := hv_snoc (s.data.toList.take k) s[k]
      have hsn2 := hs_snoc (s.data.toList.take k) s[k]
      rw [← take_snoc s k hlt] at hsn hsn2
      have hb := byte_lt s[k]
      have H1 := Lib.hid hsn
      have H2 := Lib.hid hsn2
      clear hsn hsn2
      go_wp2
      go_region
      go_wp2
      go_roundw
      case rel => exact ⟨k + 1, n + 1, by omega, by go_num, by rw [H1.out, H2.out]⟩
      case measure => simp [intOf]; omega
    · have H1 := Lib.hid (take_all s k (by omega))
      go_wp2
      refine bodyPost_ret (v := .agg #[.int .i64 (hv (s.data.toList.take k)), .int .i64 (hs (s.data.toList.take k))]) (by simp [results, Tryd.results10, go_sem]) rfl ⟨by rw [H1.out], ?_⟩
      exact below_drewN (((Below.refl _ _).alloc (Nat.le_refl _) _).alloc (by simp) _) _
end Go.Proofs.YtpjpckhmjonehaaDoor
