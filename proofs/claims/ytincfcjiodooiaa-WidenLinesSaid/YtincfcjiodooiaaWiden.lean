/-
  The walks of spans.Widened and spans.Widen: a span widened to whole lines. Nothing that was there is changed.
-/
import Derived.Test.YtincfcjiodooiaaText
import Derived.Test.YtincfcjiodooiaaReg
import Derived.Shelf.Strings.LastIndex
import Derived.Shelf.Small.Strs
namespace Go.Proofs.Ytincfcjiodooiaa
open Go.RowKit Go.Shelf Go.Lib
set_option linter.unusedVariables false

def ibL_ren : Go.Shelf.Ren := ⟨fun | 137 => 68 | 217 => 88 | 266 => 95 | n => n, fun | 3 => 3 | 5 => 5 | 9 => 9 | n => n, fun n => n⟩
theorem ibL : Lays.n137 Try.prog ibL_ren := {
  mixed := by kernel_rfl
  f137 := Try.func68.trans (congrArg some (by kernel_rfl))
  f217 := Try.func88.trans (congrArg some (by kernel_rfl))
  f266 := Try.func95.trans (congrArg some (by kernel_rfl))
  t3 := Try.underlying3
  a3 := Try.isAgg3
  z3 := Try.sizeOf3
  v3 := Try.zeroValue3
  t5 := Try.underlying5
  a5 := Try.isAgg5
  z5 := Try.sizeOf5
  v5 := Try.zeroValue5
  t9 := Try.underlying9
  a9 := Try.isAgg9
  z9 := Try.sizeOf9
  v9 := Try.zeroValue9 }

def liL_ren : Go.Shelf.Ren := ⟨fun | 149 => 67 | 222 => 87 | n => n, fun | 3 => 3 | 4 => 4 | 5 => 5 | 9 => 9 | n => n, fun n => n⟩
theorem liL : Lays.n149 Try.prog liL_ren := {
  mixed := by kernel_rfl
  f149 := Try.func67.trans (congrArg some (by kernel_rfl))
  f222 := Try.func87.trans (congrArg some (by kernel_rfl))
  t3 := Try.underlying3
  a3 := Try.isAgg3
  z3 := Try.sizeOf3
  v3 := Try.zeroValue3
  t4 := Try.underlying4
  a4 := Try.isAgg4
  z4 := Try.sizeOf4
  v4 := Try.zeroValue4
  t5 := Try.underlying5
  a5 := Try.isAgg5
  z5 := Try.sizeOf5
  v5 := Try.zeroValue5
  t9 := Try.underlying9
  a9 := Try.isAgg9
  z9 := Try.sizeOf9
  v9 := Try.zeroValue9 }

theorem indexByte_is (l : List UInt8) (c : UInt8) : Lib.indexByte l c = -1 ∨ ∃ k : Nat, k < l.length ∧ Lib.indexByte l c = k ∧ l[k]? = some c := by
  induction l with
  | nil => exact .inl rfl
  | cons b l ih =>
    by_cases hb : b = c
    · subst hb; exact .inr ⟨0, by simp, by simp [Lib.indexByte], by simp⟩
    · have hb' : (b == c) = false := by simpa using hb
      rcases ih with ih | ⟨k, hk, he, hc⟩
      · exact .inl (by simp [Lib.indexByte, hb', ih])
      · refine .inr ⟨k + 1, by simpa using hk, ?_, by simpa using hc⟩
        simp only [Lib.indexByte, hb', he]
        first | (simp; done) | (simp; omega)
theorem bang_at (s : ByteArray) (k : Nat) (h : k < s.size) : s.data[k]! = s[k] := by
  rw [getElem!_pos s.data k h]; rfl
theorem ext_at (s : ByteArray) (a b i : Nat) (h : i < (s.extract a b).size) : (s.extract a b)[i] = s[a + i]'(by rw [ByteArray.size_extract] at h; omega) := by
  show (s.extract a b).data[i] = s.data[a + i]'_
  simp only [ByteArray.data_extract, Array.getElem_extract]
theorem getElem?_at (s : ByteArray) (k : Nat) (c : UInt8) (h : s.data.toList[k]? = some c) : ∃ hk : k < s.size, s[k] = c := by
  obtain ⟨hk, he⟩ := List.getElem?_eq_some_iff.1 h
  have hk' : k < s.size := by simpa using hk
  exact ⟨hk', by rw [← he]; rfl⟩
/-- Where a line begins that goes to lo; where one ends that goes on from hi. -/
def WLo (s : ByteArray) (lo wl : Nat) : Prop := wl = 0 ∨ ∃ k, ∃ hk : k < s.size, wl = k + 1 ∧ k < lo ∧ s[k] = 10
def WHi (s : ByteArray) (hi wh : Nat) : Prop := wh = s.size ∨ ∃ k, ∃ hk : k < s.size, wh = k + 1 ∧ hi ≤ k ∧ s[k] = 10
def WPost (s : ByteArray) (lo hi : Nat) (w : World) (e : Ending) (w' : World) : Prop :=
  ∃ wl wh : Nat, e = .returned (.agg #[.int .i64 (wl : Int), .int .i64 (wh : Int)]) ∧ WLo s lo wl ∧ WHi s hi wh ∧ Below w.heap.size w w'
theorem wlo_of (s : ByteArray) (lo : Nat) (h : lo ≤ s.size) : ∃ wl : Nat, Lib.lastIndexByte (s.extract 0 lo) 10 + 1 = (wl : Int) ∧ WLo s lo wl := by
  rcases Lib.lastIdx_spec (s.extract 0 lo) 10 (s.extract 0 lo).size with ⟨h1, _⟩ | ⟨i, hi, h1, h2, _⟩
  · exact ⟨0, by show Lib.lastIdx _ _ _ + 1 = _; rw [h1]; rfl, .inl rfl⟩
  · have hi' : i < lo := by rw [ByteArray.size_extract] at hi; omega
    refine ⟨i + 1, by show Lib.lastIdx _ _ _ + 1 = _; rw [h1]; omega, .inr ⟨i, by omega, rfl, hi', ?_⟩⟩
    rw [bang_at _ _ hi] at h2
    have e : (s.extract 0 lo)[i] = s[i]'(by omega) := by rw [ext_at]; congr 1; omega
    rw [e] at h2
    apply UInt8.toNat_inj.1
    have : (10 : UInt8).toNat = 10 := rfl
    omega
theorem whi_of (s : ByteArray) (hi : Nat) (h : hi ≤ s.size) : (Lib.indexByte (s.extract hi s.size).data.toList 10 = -1) ∨ ∃ k : Nat, Lib.indexByte (s.extract hi s.size).data.toList 10 = (k : Int) ∧ WHi s hi (hi + k + 1) ∧ hi + k + 1 ≤ s.size := by
  rcases indexByte_is (s.extract hi s.size).data.toList 10 with h1 | ⟨k, hk, h1, h2⟩
  · exact .inl h1
  · obtain ⟨hk', he⟩ := getElem?_at _ _ _ h2
    rw [ByteArray.size_extract] at hk'
    refine .inr ⟨k, h1, .inr ⟨hi + k, by omega, rfl, by omega, ?_⟩, by omega⟩
    rw [← he, ext_at]

set_option maxRecDepth 100000 in
set_option maxHeartbeats 2000000 in
theorem widened_any (s : ByteArray) (lo hi : Nat) (w : World) (hs : s.size ≤ 600) (h1 : lo ≤ hi) (h2 : hi ≤ s.size) :
    Calls Try.prog 41 #[.string s, .agg #[.int .i64 lo, .int .i64 hi]] w (WPost s lo hi w) := by
  obtain ⟨wl, hwl, HL⟩ := wlo_of s lo (by omega)
  have wlb : wl ≤ s.size := by rcases HL with h | ⟨k, hk, h, _⟩ <;> omega
  have LI := Lib.hid (fun W => Any.strings_LastIndexByte liL (s.extract 0 lo) 10 (by rw [ByteArray.size_extract]; omega) W)
  have IB := Lib.hid (fun W => Any.strings_IndexByte ibL (s.extract hi s.size) 10 W)
  have HWL := Lib.hid hwl
  clear hwl
  have l2 : Lib.lastIndexByte (s.extract 0 lo) 10 ≤ 600 := by have := HWL.out; omega
  have l3 : -1 ≤ Lib.lastIndexByte (s.extract 0 lo) 10 := by have := HWL.out; omega
  generalize Lib.lastIndexByte (s.extract 0 lo) 10 = q at *
  rcases whi_of s hi h2 with hwh | ⟨k, hwh, HH, hkb⟩
  · have IB' : Hid (∀ W : World, Calls Try.prog 68 #[.string (s.extract hi s.size), .int .u8 10] W fun e w' => e = .returned (.int .i64 (-1)) ∧ w' = W) := Lib.hid (by
      intro W; have := IB.out W; rw [show (10 : Int).toNat.toUInt8 = 10 from rfl, hwh] at this; exact this)
    have LI' : Hid (∀ W : World, Calls Try.prog 67 #[.string (s.extract 0 lo), .int .u8 10] W fun e w' => e = .returned (.int .i64 q) ∧ w' = W) := Lib.hid (by
      exact LI.out)
    clear IB LI hwh
    go_enter Try.func41, Try.ntmps41
    go_wp2_with (first | (go_at_call 67; refine (LI'.out _).mono ?_; rintro e w' ⟨rfl, rfl⟩) | (go_at_call 68; refine (IB'.out _).mono ?_; rintro e w' ⟨rfl, rfl⟩))
    rw [HWL.out]
    refine bodyPost_ret (v := .agg #[.int .i64 wl, .int .i64 s.size]) (by simp [results, Try.results41, go_sem]) rfl ⟨wl, s.size, rfl, HL, .inl rfl, ?_⟩
    exact ((Below.refl _ _).alloc (Nat.le_refl _) _).alloc (by simp) _
  · have IB' : Hid (∀ W : World, Calls Try.prog 68 #[.string (s.extract hi s.size), .int .u8 10] W fun e w' => e = .returned (.int .i64 (k : Int)) ∧ w' = W) := Lib.hid (by
      intro W; have := IB.out W; rw [show (10 : Int).toNat.toUInt8 = 10 from rfl, hwh] at this; exact this)
    have LI' : Hid (∀ W : World, Calls Try.prog 67 #[.string (s.extract 0 lo), .int .u8 10] W fun e w' => e = .returned (.int .i64 q) ∧ w' = W) := Lib.hid (by
      exact LI.out)
    clear IB LI hwh
    go_enter Try.func41, Try.ntmps41
    go_wp2_with (first | (go_at_call 67; refine (LI'.out _).mono ?_; rintro e w' ⟨rfl, rfl⟩) | (go_at_call 68; refine (IB'.out _).mono ?_; rintro e w' ⟨rfl, rfl⟩))
    rw [HWL.out]
    refine bodyPost_ret (v := .agg #[.int .i64 wl, .int .i64 (hi + k + 1 : Nat)]) (by simp [results, Try.results41, go_sem]; omega) rfl ⟨wl, hi + k + 1, rfl, HL, HH, ?_⟩
    exact ((Below.refl _ _).alloc (Nat.le_refl _) _).alloc (by simp) _
def WEPost (s : ByteArray) (lo hi : Nat) (w : World) (e : Ending) (w' : World) : Prop :=
  ∃ wl wh : Nat, e = .returned (.tuple #[.agg #[.int .i64 (wl : Int), .int .i64 (wh : Int)], .int .i64 0]) ∧ WLo s lo wl ∧ WHi s hi wh ∧ Below w.heap.size w w'
set_option maxRecDepth 100000 in
set_option maxHeartbeats 2000000 in
theorem widen_any (s : ByteArray) (lo hi : Nat) (w : World) (hs : s.size ≤ 600) (h1 : lo ≤ hi) (h2 : hi ≤ s.size) :
    Calls Try.prog 17 #[.string s, .agg #[.int .i64 lo, .int .i64 hi]] w (WEPost s lo hi w) := by
  have WD := Lib.hid (fun W => widened_any s lo hi W hs h1 h2)
  have d1 : decide (s.size < hi) = false := by simp; omega
  have d2 : decide (hi < lo) = false := by simp; omega
  go_enter Try.func17, Try.ntmps17
  go_wp2_with fail
  refine (WD.out _).mono ?_
  rintro e w1 ⟨wl, wh, rfl, HL, HH, hb1⟩
  have k1 : Below w.heap.size w w1 := (((Below.refl _ _).alloc (Nat.le_refl _) _).alloc (by simp) _).trans (hb1.mono (by simp; omega))
  obtain ⟨hc1, hf1⟩ := bcell hb1
  have hz : w.heap.size + 1 < w1.heap.size := by have := hb1.size; simp at this; omega
  clear hb1
  go_wp2_with fail
  refine bodyPost_ret (v := .tuple #[.agg #[.int .i64 wl, .int .i64 wh], .int .i64 0]) (by simp [results, Try.results17, go_sem, hc1]) rfl ⟨wl, wh, rfl, HL, HH, ?_⟩
  exact (k1.setCell (by simp) _).setCell (by simp) _
end Go.Proofs.Ytincfcjiodooiaa
