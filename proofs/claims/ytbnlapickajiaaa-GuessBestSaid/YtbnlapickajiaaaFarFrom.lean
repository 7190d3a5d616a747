/-
  The walk of farFrom: the Levenshtein distance of two words of at most MaxFind bytes.
-/
import Derived.Test.YtbnlapickajiaaaFew
import Derived.Test.YtbnlapickajiaaaFar
namespace Go.Proofs.Ytbnlapickajiaaa
open Go.RowKit
set_option linter.unusedVariables false

theorem few_len (xs : List Int) (n : Nat) (s : ByteArray) (h : s.data.toList = (xs.take n).map ab) : s.size ≤ n := by
  have h2 : s.data.toList.length = s.size := by simp
  rw [← h2, h]; simp; omega

set_option maxHeartbeats 1000000 in
theorem farFrom_any (a b : ByteArray) (w : World) (ha : a.size ≤ 20) (hb : b.size ≤ 20) :
    Calls Try.prog 11 #[.string a, .string b] w fun e w' => e = .returned (.int .i64 (Lv.lev a.data.toList b.data.toList)) ∧ Below w.heap.size w w' := by
  have h1 : Lv.lev [97, 98] [98] = 1 := by decide
  go_enter Try.func11, Try.ntmps11
  go_wp2_with fail
  refine (Far_any _ _ _ ha hb).mono ?_
  rintro e w1 ⟨rfl, hb1⟩
  go_wp2_with fail
  refine (Far_any _ _ _ (by decide) (by decide)).mono ?_
  rintro e w2 ⟨rfl, hb2⟩
  go_wp2_with fail
  go_ret
  exact ⟨rfl, bstep hb1 hb2⟩

end Go.Proofs.Ytbnlapickajiaaa
