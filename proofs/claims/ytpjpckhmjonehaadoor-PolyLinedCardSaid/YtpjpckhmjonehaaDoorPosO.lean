/-
  The walk of pos.Of.
-/
import Derived.Test.YtpjpckhmjonehaaDoorPosP
import Derived.Test.YtpjpckhmjonehaaDoorByteL
import Derived.Test.YtpjpckhmjonehaaDoorReg
import Derived.Shelf.Strings.Count
namespace Go.Proofs.YtpjpckhmjonehaaDoor
open Go.RowKit Go.Shelf Go.Lib
set_option linter.unusedVariables false

def posv (l : List UInt8) : Value := .agg #[.int .i64 (l.length : Int), .int .i64 (lnsL l : Int), .int .i64 (colL l : Int)]
set_option maxRecDepth 100000 in
set_option maxHeartbeats 1000000 in
theorem count_any (s : ByteArray) (w : World) :
    Calls Tryd.prog 11 #[.string s, .string ⟨#[10]⟩] w fun e w' => e = .returned (.int .i64 (lnsL s.data.toList : Int)) ∧ w' = w := by
  go_enter Tryd.func11, Tryd.ntmps11
  go_wp2
  rw [run_callFunc_extern Tryd.func15 (by kernel_rfl) (by kernel_rfl) (by kernel_rfl) (e := Extern.BytealgCount.count) (by kernel_rfl), Lib.run_countString]
  simp only [Result.andThen]
  rw [Oper.upon_value]
  go_wp2
  go_ret
  exact ⟨rfl, rfl⟩

set_option maxRecDepth 100000 in
set_option maxHeartbeats 1000000 in
theorem posOf_any (s : ByteArray) (w : World) (hs : s.size ≤ 100000) :
    Calls Tryd.prog 6 #[.string s] w fun e w' => e = .returned (posv s.data.toList) ∧ Below w.heap.size w w' := by
  have LI := Lib.hid (fun W => Any.strings_LastIndexByte liL s 10 (by omega) W)
  have CN := Lib.hid (fun W => count_any s W)
  have hl := last_col s
  have hc := col_le s.data.toList
  have hlen : s.data.toList.length = s.size := by simp
  have HP := Lib.hid (show posv s.data.toList = .agg #[.int .i64 (s.size : Int), .int .i64 (lnsL s.data.toList : Int), .int .i64 (colL s.data.toList : Int)] by unfold posv; rw [hlen])
  rw [hlen] at hc
  clear hlen
  generalize Lib.lastIndexByte s 10 = q at *
  generalize lnsL s.data.toList = n at *
  generalize colL s.data.toList = k at *
  obtain rfl : q = (s.size : Int) - k - 1 := by omega
  have e1 : (s.size : Int) - ((s.size : Int) - k - 1) - 1 = k := by omega
  clear hl
  go_enter Tryd.func6, Tryd.ntmps6
  go_wp2_with (first | (go_at_call 12; refine (LI.out _).mono ?_; rintro e w' ⟨rfl, rfl⟩) | (go_at_call 11; refine (CN.out _).mono ?_; rintro e w' ⟨rfl, rfl⟩))
  rw [HP.out]
  refine bodyPost_ret (v := .agg #[.int .i64 (s.size : Int), .int .i64 (n : Int), .int .i64 (k : Int)]) (by simp [results, Tryd.results6, go_sem]) rfl ⟨rfl, ?_⟩
  exact (Below.refl _ _).alloc (Nat.le_refl _) _

end Go.Proofs.YtpjpckhmjonehaaDoor
