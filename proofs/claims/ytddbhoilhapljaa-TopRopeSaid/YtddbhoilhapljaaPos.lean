/-
  The walks of package pos: Of, At, May, Join and Find. Nothing that was there is changed.
-/
import Derived.Test.YtddbhoilhapljaaPosP
import Derived.Test.YtddbhoilhapljaaByteL
import Derived.Test.YtddbhoilhapljaaReg
import Derived.Shelf.Strings.Count
namespace Go.Proofs.Ytddbhoilhapljaa
open Go.RowKit Go.Shelf Go.Lib
set_option linter.unusedVariables false

def posv (l : List UInt8) : Value := .agg #[.int .i64 (l.length : Int), .int .i64 (lnsL l : Int), .int .i64 (colL l : Int)]
set_option maxRecDepth 100000 in
set_option maxHeartbeats 1000000 in
theorem count_any (s : ByteArray) (w : World) :
    Calls Try.prog 60 #[.string s, .string ⟨#[10]⟩] w fun e w' => e = .returned (.int .i64 (lnsL s.data.toList : Int)) ∧ w' = w := by
  go_enter Try.func60, Try.ntmps60
  go_wp2
  rw [run_callFunc_extern Try.func83 (by kernel_rfl) (by kernel_rfl) (by kernel_rfl) (e := Extern.BytealgCount.count) (by kernel_rfl), Lib.run_countString]
  simp only [Result.andThen]
  rw [Oper.upon_value]
  go_wp2
  go_ret
  exact ⟨rfl, rfl⟩

set_option maxRecDepth 100000 in
set_option maxHeartbeats 1000000 in
theorem posOf_any (s : ByteArray) (w : World) (hs : s.size ≤ 100000) :
    Calls Try.prog 36 #[.string s] w fun e w' => e = .returned (posv s.data.toList) ∧ Below w.heap.size w w' := by
  have LI := Lib.hid (fun W => Any.strings_LastIndexByte liL s 10 (by omega) W)
  have CN := Lib.hid (fun W => count_any s W)
  have hl := last_col s
  have hc := col_le s.data.toList
  have hlen : s.data.toList.length = s.size := by simp
  have HP := Lib.hid (show posv s.data.toList = .agg #[.int .i64 (s.size : Int), .int .i64 (lnsL s.data.toList : Int), .int .i64 (colL s.data.toList : Int)] by unfold posv; rw [hlen])
  rw [hlen] at hc
  clear hlen
  generalize Lib.lastIndexByte s 10 = q at *
  generalize lnsL s.data.toList = n at *
  generalize colL s.data.toList = k at *
  obtain rfl : q = (s.size : Int) - k - 1 := by omega
  have e1 : (s.size : Int) - ((s.size : Int) - k - 1) - 1 = k := by omega
  clear hl
  go_enter Try.func36, Try.ntmps36
  go_wp2_with (first | (go_at_call 61; refine (LI.out _).mono ?_; rintro e w' ⟨rfl, rfl⟩) | (go_at_call 60; refine (CN.out _).mono ?_; rintro e w' ⟨rfl, rfl⟩))
  rw [HP.out]
  refine bodyPost_ret (v := .agg #[.int .i64 (s.size : Int), .int .i64 (n : Int), .int .i64 (k : Int)]) (by simp [results, Try.results36, go_sem]) rfl ⟨rfl, ?_⟩
  exact (Below.refl _ _).alloc (Nat.le_refl _) _

theorem ext0_list (s : ByteArray) (k : Nat) : (s.extract 0 k).data.toList = s.data.toList.take k := by
  simp [ByteArray.data_extract, List.extract]
theorem may_cond (l : List UInt8) : lnsL l + colL l ≤ l.length ∧ (lnsL l = 0 → colL l = l.length) := ⟨col_le l, col_all l⟩
set_option maxRecDepth 100000 in
set_option maxHeartbeats 2000000 in
theorem posMay_any (l : List UInt8) (w : World) (hs : l.length ≤ 100000) :
    Calls Try.prog 35 #[posv l] w fun e w' => e = .returned (.bool true) ∧ Below w.heap.size w w' := by
  have ⟨h1, h2⟩ := may_cond l
  unfold posv
  generalize l.length = x0 at *
  generalize lnsL l = x1 at *
  generalize colL l = x2 at *
  have h3 : ((x1 : Int) + (x2 : Int)) ≤ x0 := by omega
  have h4 : x2 ≤ 100000 := by omega
  have h5 : x1 ≤ 100000 := by omega
  clear h1
  by_cases h0 : x1 = 0
  · subst h0
    obtain rfl := h2 rfl
    go_enter Try.func35, Try.ntmps35
    go_wp2_with fail
    go_ret
    exact ⟨rfl, (Below.refl _ _).alloc (Nat.le_refl _) _⟩
  · have h6 : 0 < x1 := by omega
    clear h2 h0
    go_enter Try.func35, Try.ntmps35
    go_wp2_with fail
    go_ret
    exact ⟨rfl, (Below.refl _ _).alloc (Nat.le_refl _) _⟩

theorem posv_append (a b : List UInt8) : posv (a ++ b) = .agg #[.int .i64 ((a.length : Int) + b.length), .int .i64 ((lnsL a : Int) + lnsL b), .int .i64 (if lnsL b = 0 then (colL b : Int) + colL a else (colL b : Int))] := by
  have h1 : (((a ++ b).length : Nat) : Int) = (a.length : Int) + b.length := by simp
  have h2 : ((lnsL (a ++ b) : Nat) : Int) = (lnsL a : Int) + lnsL b := by rw [lnsL_append]; simp
  have h3 : ((colL (a ++ b) : Nat) : Int) = if lnsL b = 0 then (colL b : Int) + colL a else (colL b : Int) := by
    rw [colL_append]
    by_cases h : lnsL b = 0
    · have := col_all b h
      rw [if_pos h, if_pos h]; omega
    · rw [if_neg h, if_neg h]
  unfold posv
  rw [h1, h2, h3]
set_option maxRecDepth 100000 in
set_option maxHeartbeats 2000000 in
theorem posJoin_any (a b : List UInt8) (w : World) (ha : a.length ≤ 10000) (hb : b.length ≤ 10000) :
    Calls Try.prog 122 #[posv a, posv b] w fun e w' => e = .returned (.tuple #[posv (a ++ b), .int .i64 0]) ∧ Below w.heap.size w w' := by
  have M1 := Lib.hid (fun W => posMay_any a W (by omega))
  have M2 := Lib.hid (fun W => posMay_any b W (by omega))
  have M3 := Lib.hid (fun W => posMay_any (a ++ b) W (by simp; omega))
  have c1 := may_cond a
  have c2 := may_cond b
  rw [posv_append] at *
  unfold posv at *
  generalize a.length = x0 at *
  generalize lnsL a = x1 at *
  generalize colL a = x2 at *
  generalize b.length = y0 at *
  generalize lnsL b = y1 at *
  generalize colL b = y2 at *
  obtain ⟨c1, -⟩ := c1
  obtain ⟨c2, -⟩ := c2
  by_cases h0 : y1 = 0
  · subst h0
    rw [if_pos rfl] at *
    have T0 := Lib.hid (Three.new ((w.alloc (.cells #[.int .i64 x0, .int .i64 x1, .int .i64 x2] 78)).alloc (.cells #[.int .i64 y0, .int .i64 0, .int .i64 y2] 78)) (.int .i64 0) (.int .i64 0) (.int .i64 0) 78)
    go_enter Try.func122, Try.ntmps122
    go_wp2_with fail
    refine (M1.out _).mono ?_
    rintro e w1 ⟨rfl, hb1⟩
    obtain ⟨hc1, hf1⟩ := bcell hb1
    obtain ⟨z10, z11, z12⟩ : w.heap.size < w1.heap.size ∧ w.heap.size + 1 < w1.heap.size ∧ w.heap.size + 1 + 1 < w1.heap.size := by have := hb1.size; simp at this; omega
    go_wp2_with fail
    refine (M2.out _).mono ?_
    rintro e w2 ⟨rfl, hb2⟩
    obtain ⟨hc2, hf2⟩ := bcell hb2
    obtain ⟨z20, z21, z22⟩ : w.heap.size < w2.heap.size ∧ w.heap.size + 1 < w2.heap.size ∧ w.heap.size + 1 + 1 < w2.heap.size := by have := hb2.size; omega
    go_wp2_with fail
    rw [show ((x1 : Int) + ((0 : Nat) : Int)) = x1 by omega] at M3
    refine (M3.out _).mono ?_
    rintro e w3 ⟨rfl, hb3⟩
    obtain ⟨hc3, hf3⟩ := bcell hb3
    obtain ⟨z30, z31, z32, z33⟩ : w.heap.size < w3.heap.size ∧ w.heap.size + 1 < w3.heap.size ∧ w.heap.size + 1 + 1 < w3.heap.size ∧ w2.heap.size < w3.heap.size := by have := hb3.size; simp at this; omega
    have T3 := ((((T0.out.later hb1).later hb2).alloc _).later hb3)
    obtain ⟨C9, C0, C1, C2⟩ : Three w3 (w.heap.size + 1 + 1) (.int .i64 0) (.int .i64 0) (.int .i64 0) := by simpa using T3
    clear T3
    go_wp2_with fail
    refine bodyPost_ret (v := .tuple #[.agg #[.int .i64 ((x0 : Int) + y0), .int .i64 (x1 : Int), .int .i64 ((y2 : Int) + x2)], .int .i64 0]) (by simp [results, Try.results122, go_sem, C0, C1, C2]) rfl ⟨rfl, ?_⟩
    have k2 := bstep (bstep ((((Below.refl _ _).alloc (Nat.le_refl _) _).alloc (by simp) _).alloc (by simp; omega) _) hb1) hb2
    exact (((bstep (k2.alloc k2.size _) hb3).setCell (by simp; omega) _).setCell (by simp; omega) _).setCell (by simp; omega) _
  · have h1 : ((y1 : Int) == 0) = false := by simp; omega
    rw [if_neg h0] at *
    have T0 := Lib.hid (Three.new ((w.alloc (.cells #[.int .i64 x0, .int .i64 x1, .int .i64 x2] 78)).alloc (.cells #[.int .i64 y0, .int .i64 y1, .int .i64 y2] 78)) (.int .i64 0) (.int .i64 0) (.int .i64 0) 78)
    go_enter Try.func122, Try.ntmps122
    go_wp2_with fail
    refine (M1.out _).mono ?_
    rintro e w1 ⟨rfl, hb1⟩
    obtain ⟨hc1, hf1⟩ := bcell hb1
    obtain ⟨z10, z11, z12⟩ : w.heap.size < w1.heap.size ∧ w.heap.size + 1 < w1.heap.size ∧ w.heap.size + 1 + 1 < w1.heap.size := by have := hb1.size; simp at this; omega
    go_wp2_with fail
    refine (M2.out _).mono ?_
    rintro e w2 ⟨rfl, hb2⟩
    obtain ⟨hc2, hf2⟩ := bcell hb2
    obtain ⟨z20, z21, z22⟩ : w.heap.size < w2.heap.size ∧ w.heap.size + 1 < w2.heap.size ∧ w.heap.size + 1 + 1 < w2.heap.size := by have := hb2.size; omega
    go_wp2_with fail
    refine (M3.out _).mono ?_
    rintro e w3 ⟨rfl, hb3⟩
    obtain ⟨hc3, hf3⟩ := bcell hb3
    obtain ⟨z30, z31, z32, z33⟩ : w.heap.size < w3.heap.size ∧ w.heap.size + 1 < w3.heap.size ∧ w.heap.size + 1 + 1 < w3.heap.size ∧ w2.heap.size < w3.heap.size := by have := hb3.size; simp at this; omega
    have T3 := ((((T0.out.later hb1).later hb2).alloc _).later hb3)
    obtain ⟨C9, C0, C1, C2⟩ : Three w3 (w.heap.size + 1 + 1) (.int .i64 0) (.int .i64 0) (.int .i64 0) := by simpa using T3
    clear T3
    go_wp2_with fail
    refine bodyPost_ret (v := .tuple #[.agg #[.int .i64 ((x0 : Int) + y0), .int .i64 ((x1 : Int) + y1), .int .i64 (y2 : Int)], .int .i64 0]) (by simp [results, Try.results122, go_sem, C0, C1, C2]) rfl ⟨rfl, ?_⟩
    have k2 := bstep (bstep ((((Below.refl _ _).alloc (Nat.le_refl _) _).alloc (by simp) _).alloc (by simp; omega) _) hb1) hb2
    exact (((bstep (k2.alloc k2.size _) hb3).setCell (by simp; omega) _).setCell (by simp; omega) _).setCell (by simp; omega) _
end Go.Proofs.Ytddbhoilhapljaa
