/-
  The walk of the law PolyByte: it returns true at every input, and changes no memory that was there. No condition but that the strings fit Go's bound on lengths.
-/
import Derived.Test.YtamgnmhiglkagaaPoly
import Derived.Handy
import Derived.Laws.BytesArg
namespace Go.Proofs.Ytamgnmhiglkagaa
open Go.RowKit
set_option linter.unusedVariables false

theorem conv_byte (x : Int) (w : World) (n : Nat) (hn : n = w.heap.size) : (convert 25 9 (Value.slice (some ⟨n, 0, none⟩) 1 1)).run Try.prog (w.alloc (Obj.cells #[.int .u8 x] 5)) = .ok (.string ⟨#[UInt8.ofNat x.toNat]⟩) (w.alloc (Obj.cells #[.int .u8 x] 5)) := by
  subst hn
  have h := run_convert_bytes_arg (P := Try.prog) (w := w.alloc (Obj.cells #[.int .u8 x] 5)) 25 5 Try.underlying25 Try.underlying5 w.heap.size 0 1 1 [x] rfl (by
    intro i hi
    obtain rfl : i = 0 := by omega
    simp [go_sem]) 9 Try.underlying9
  rw [h]; rfl

theorem hv_one (x : Int) (hx : 0 ≤ x) (hx2 : x < 256) : hv [UInt8.ofNat x.toNat] = x + 1 := by
  have : (UInt8.ofNat x.toNat).toNat = x.toNat := by simp; omega
  simp only [hv, List.foldl]; rw [this]; omega
theorem hv_ne (a b : List UInt8) (x y : Int) (hx : 0 ≤ x) (hx2 : x < 256) (hy : 0 ≤ y) (hy2 : y < 256) (h : ¬ x = y) : ¬ hv (a ++ UInt8.ofNat x.toNat :: b) = hv (a ++ UInt8.ofNat y.toNat :: b) := by
  intro e
  have f : ∀ c : UInt8, a ++ c :: b = (a ++ [c]) ++ b := by intro c; simp
  rw [f, f, hv_append _ b, hv_append _ b, hv_append a, hv_append a, hv_one x hx hx2, hv_one y hy hy2] at e
  have hs1 : ∀ c : UInt8, hs [c] = 257 := by intro c; rfl
  rw [hs1, hs1] at e
  generalize ha : hv a * 257 = p at e
  have g : ((p + (x + 1)) % 2147483647 - (p + (y + 1)) % 2147483647) * hs b % 2147483647 = 0 := by
    rw [Int.sub_mul]; omega
  have := hs_mul b _ g
  omega
theorem hv_two (x y : Int) (hx : 0 ≤ x) (hx2 : x < 256) (hy : 0 ≤ y) (hy2 : y < 256) (h : ¬ x = y) : ¬ hv [UInt8.ofNat x.toNat, UInt8.ofNat y.toNat] = hv [UInt8.ofNat y.toNat, UInt8.ofNat x.toNat] := by
  have h1 : (UInt8.ofNat x.toNat).toNat = x.toNat := by simp; omega
  have h2 : (UInt8.ofNat y.toNat).toNat = y.toNat := by simp; omega
  simp only [hv, List.foldl]; rw [h1, h2]; omega

set_option maxRecDepth 100000 in
set_option maxHeartbeats 400000 in
theorem polyByte_eq (a b m : ByteArray) (x : Int) (w : World) (ha : a.size ≤ 300) (hb : b.size ≤ 300) (hm : m.size ≤ 300) (hx : 0 ≤ x) (hx2 : x < 256) :
    Calls Try.prog 3 #[.string a, .string b, .int .u8 x, .int .u8 x, .string m] w fun e w' => e = .returned (.bool true) ∧ Below w.heap.size w w' := by
  have hd1 : decide (300 < (a.size : Int)) = false := by simp; omega
  have hd2 : decide (300 < (b.size : Int)) = false := by simp; omega
  have hd3 : decide (300 < (m.size : Int)) = false := by simp; omega
  have hc1 := conv_byte x w _ rfl
  have hc2 := conv_byte x (w.alloc (Obj.cells #[.int .u8 x] 5)) (w.heap.size + 1) (by simp)
  have h97 : hv [97] = 98 := by decide
  go_enter Try.func3, Try.ntmps3
  go_wp2_with fail
  refine (polyOf_any _ _ (small_len _ (by simp only [ByteArray.size_append, size_one]; omega))).mono ?_
  rintro e w1 ⟨rfl, hb1⟩
  go_wp2_with fail
  refine (polyOf_any _ _ (small_len _ (by simp only [ByteArray.size_append, size_one]; omega))).mono ?_
  rintro e w2 ⟨rfl, hb2⟩
  go_wp2_with fail
  refine (polyOf_any _ _ (small_len _ (by simp only [ByteArray.size_append, size_one]; decide))).mono ?_
  rintro e w3 ⟨rfl, hb3⟩
  go_wp2_with fail
  refine (polyOf_any _ _ (small_len _ (by simp only [ByteArray.size_append, size_one]; decide))).mono ?_
  rintro e w4 ⟨rfl, hb4⟩
  go_wp2_with fail
  refine (polyOf_any _ _ (small_len _ (by decide))).mono ?_
  rintro e w5 ⟨rfl, hb5⟩
  go_wp2_with fail
  go_ret
  refine ⟨rfl, ?_⟩
  refine bstep (bstep (bstep (bstep (bstep ?_ hb1) hb2) hb3) hb4) hb5
  exact ((Below.refl _ _).alloc (Nat.le_refl _) _).alloc (by simp) _

set_option maxRecDepth 100000 in
set_option maxHeartbeats 400000 in
theorem polyByte_ne (a b m : ByteArray) (x y : Int) (w : World) (ha : a.size ≤ 300) (hb : b.size ≤ 300) (hm : m.size ≤ 300) (hx : 0 ≤ x) (hx2 : x < 256) (hy : 0 ≤ y) (hy2 : y < 256) (hne : ¬ x = y) :
    Calls Try.prog 3 #[.string a, .string b, .int .u8 x, .int .u8 y, .string m] w fun e w' => e = .returned (.bool true) ∧ Below w.heap.size w w' := by
  have hd1 : decide (300 < (a.size : Int)) = false := by simp; omega
  have hd2 : decide (300 < (b.size : Int)) = false := by simp; omega
  have hd3 : decide (300 < (m.size : Int)) = false := by simp; omega
  have hc1 := conv_byte x w _ rfl
  have hc2 := conv_byte y (w.alloc (Obj.cells #[.int .u8 x] 5)) (w.heap.size + 1) (by simp)
  have hn1 := hv_ne a.data.toList b.data.toList x y hx hx2 hy hy2 hne
  have hn2 := hv_two x y hx hx2 hy hy2 hne
  have hn3 : (x == y) = false := by simpa using hne
  have h97 : hv [97] = 98 := by decide
  go_enter Try.func3, Try.ntmps3
  go_wp2_with fail
  refine (polyOf_any _ _ (small_len _ (by simp only [ByteArray.size_append, size_one]; omega))).mono ?_
  rintro e w1 ⟨rfl, hb1⟩
  go_wp2_with fail
  refine (polyOf_any _ _ (small_len _ (by simp only [ByteArray.size_append, size_one]; omega))).mono ?_
  rintro e w2 ⟨rfl, hb2⟩
  go_wp2_with fail
  refine (polyOf_any _ _ (small_len _ (by simp only [ByteArray.size_append, size_one]; decide))).mono ?_
  rintro e w3 ⟨rfl, hb3⟩
  go_wp2_with fail
  refine (polyOf_any _ _ (small_len _ (by simp only [ByteArray.size_append, size_one]; decide))).mono ?_
  rintro e w4 ⟨rfl, hb4⟩
  go_wp2_with fail
  refine (polyOf_any _ _ (small_len _ (by decide))).mono ?_
  rintro e w5 ⟨rfl, hb5⟩
  go_wp2_with fail
  go_ret
  refine ⟨rfl, ?_⟩
  refine bstep (bstep (bstep (bstep (bstep ?_ hb1) hb2) hb3) hb4) hb5
  exact ((Below.refl _ _).alloc (Nat.le_refl _) _).alloc (by simp) _

set_option maxRecDepth 100000 in
set_option maxHeartbeats 400000 in
theorem polyByte_big (a b m : ByteArray) (x y : Int) (w : World) (ha : a.size ≤ maxLen) (hb : b.size ≤ maxLen) (hm : m.size ≤ maxLen) (hbig : ¬ (a.size ≤ 300 ∧ b.size ≤ 300 ∧ m.size ≤ 300)) :
    Calls Try.prog 3 #[.string a, .string b, .int .u8 x, .int .u8 y, .string m] w fun e w' => e = .returned (.bool true) ∧ Below w.heap.size w w' := by
  unfold maxLen at ha hb hm
  have h97 : hv [97] = 98 := by decide
  by_cases h1 : 300 < a.size
  · have hd1 : decide (300 < (a.size : Int)) = true := by simp; omega
    go_enter Try.func3, Try.ntmps3
    go_wp2_with fail
    refine (polyOf_any _ _ (small_len _ (by decide))).mono ?_
    rintro e w1 ⟨rfl, hb1⟩
    go_wp2_with fail
    go_ret
    exact ⟨rfl, hb1⟩
  · have hd1 : decide (300 < (a.size : Int)) = false := by simp; omega
    by_cases h2 : 300 < b.size
    · have hd2 : decide (300 < (b.size : Int)) = true := by simp; omega
      go_enter Try.func3, Try.ntmps3
      go_wp2_with fail
      refine (polyOf_any _ _ (small_len _ (by decide))).mono ?_
      rintro e w1 ⟨rfl, hb1⟩
      go_wp2_with fail
      go_ret
      exact ⟨rfl, hb1⟩
    · have hd2 : decide (300 < (b.size : Int)) = false := by simp; omega
      have hd3 : decide (300 < (m.size : Int)) = true := by simp; omega
      go_enter Try.func3, Try.ntmps3
      go_wp2_with fail
      refine (polyOf_any _ _ (small_len _ (by decide))).mono ?_
      rintro e w1 ⟨rfl, hb1⟩
      go_wp2_with fail
      go_ret
      exact ⟨rfl, hb1⟩

theorem polyByte_walk (w : World) (a : ByteArray) (ha : a.size ≤ 140737488351232) (b : ByteArray) (hb : b.size ≤ 140737488351232) (x : Int) (hx : 0 ≤ x ∧ x ≤ 255) (y : Int) (hy : 0 ≤ y ∧ y ≤ 255) (m : ByteArray) (hm : m.size ≤ 140737488351232) :
    Calls Try.prog 3 #[.string a, .string b, .int .u8 x, .int .u8 y, .string m] w fun e w' => e = .returned (.bool true) ∧ Below w.heap.size w w' := by
  by_cases h : a.size ≤ 300 ∧ b.size ≤ 300 ∧ m.size ≤ 300
  · by_cases e : x = y
    · subst e; exact polyByte_eq a b m x w h.1 h.2.1 h.2.2 hx.1 (by omega)
    · exact polyByte_ne a b m x y w h.1 h.2.1 h.2.2 hx.1 (by omega) hy.1 (by omega) e
  · exact polyByte_big a b m x y w (small_len _ (by omega)) (small_len _ (by omega)) (small_len _ (by omega)) h
end Go.Proofs.Ytamgnmhiglkagaa
