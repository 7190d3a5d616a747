/-
  The walks of strings.Index at the end of a line.
-/
import Derived.Test.YtpjpckhmjonehaaDoorBase
import Derived.Lib.Walk
import Derived.Lib.Strings
import Derived.Lib.Bytealg
import Derived.Lib.IndexEntry
import Derived.Lib.IndexLaws
import Derived.Lib.IndexBytes
import Derived.BigCall
import Derived.BigGuard
namespace Go.Proofs.YtpjpckhmjonehaaDoor
open Go.RowKit
set_option linter.unusedVariables false
set_option linter.unusedSimpArgs false

set_option maxHeartbeats 2000000 in
set_option maxRecDepth 100000 in
theorem ixByte_any (s : ByteArray) (w : World) : Calls Tryd.prog 22 #[.string s, .int .u8 10] w fun e w' => e = .returned (.int .i64 (Lib.indexByte s.data.toList 10)) ∧ w = w' := by
  go_enter Tryd.func22, Tryd.ntmps22
  go_wp2
  rw [run_callFunc_extern Tryd.func26 (by kernel_rfl) (by kernel_rfl) (by kernel_rfl) (e := Extern.BytealgIndexByte.indexByte) (by kernel_rfl), Lib.run_indexByteString]
  simp only [Result.andThen]
  rw [Oper.upon_value]
  go_wp2
  go_ret
  exact ⟨rfl, rfl⟩
set_option maxHeartbeats 2000000 in
set_option maxRecDepth 100000 in
theorem ixOne_any (s : ByteArray) (w : World) : Calls Tryd.prog 20 #[.string s, .string ⟨#[10]⟩] w fun e w' => e = .returned (.int .i64 (Lib.indexByte s.data.toList 10)) ∧ w = w' := by
  have HB := Lib.hid (ixByte_any s w)
  go_enter Tryd.func20, Tryd.ntmps20
  cases hq : (([10] : List UInt8) == s.toList) with
  | true =>
    go_wp2_with fail
    go_ret
    refine ⟨?_, rfl⟩
    have e : s.data.toList = [10] := by rw [← ByteArray.toList_eq]; exact (beq_iff_eq.1 hq).symm
    rw [e]; rfl
  | false =>
    go_wp2_with fail
    change Calls Tryd.prog 22 #[.string s, .int .u8 10] w _
    refine HB.out.mono ?_
    rintro e w' ⟨rfl, rfl⟩
    go_wp2_with fail
    go_ret
    exact ⟨rfl, rfl⟩
theorem index_any (s : ByteArray) (w : World) : Calls Tryd.prog 16 #[.string s, .string ⟨#[10]⟩] w fun e w' => e = .returned (.int .i64 (Lib.indexByte s.data.toList 10)) ∧ w = w' := by
  have HB := Lib.hid (ixOne_any s w)
  go_enter Tryd.func16, Tryd.ntmps16
  go_wp2_with fail
  refine HB.out.mono ?_
  rintro e w' ⟨rfl, rfl⟩
  go_wp2_with fail
  go_ret
  exact ⟨rfl, rfl⟩
end Go.Proofs.YtpjpckhmjonehaaDoor
