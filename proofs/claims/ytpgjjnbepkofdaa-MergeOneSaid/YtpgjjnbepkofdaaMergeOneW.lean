/-
  The walk of the law MergeOne: whatever the slices and the number, it returns true and changes nothing that was there.
-/
import Derived.Test.YtpgjjnbepkofdaaMerged
import Derived.Test.YtpgjjnbepkofdaaLn
import Derived.Test.YtpgjjnbepkofdaaPick
namespace Go.Proofs.Ytpgjjnbepkofdaa
open Go.RowKit
set_option linter.unusedVariables false

set_option maxRecDepth 100000 in
set_option maxHeartbeats 4000000 in
theorem mergeOne_walk (w : World) (v0 : Value) (l : List Int) (h0 : Row .i64 w v0 l) (v1 : Value) (m : List Int) (h1 : Row .i64 w v1 m) (kinds : Int) (hk : -9223372036854775808 ≤ kinds ∧ kinds ≤ 9223372036854775807) :
    Calls Try.prog 3 #[v0, v1, .int .i64 kinds] w fun e w' => e = .returned (.bool true) ∧ Below w.heap.size w w' := by
  have hp := fun W => picked_any kinds 8 W hk (by omega) (by omega)
  have hm := Int.emod_nonneg kinds (show (8 : Int) ≠ 0 by omega)
  have hm2 := Int.emod_lt_of_pos kinds (show (0 : Int) < 8 by omega)
  generalize kinds % 8 = y at *
  obtain ⟨q, rfl⟩ : ∃ q : Nat, y = (q : Int) - 1 := ⟨(y + 1).toNat, by omega⟩
  have hq : 1 ≤ q ∧ q ≤ 8 := by omega
  have hsum : (1 : Int) + ((q : Int) - 1) = q := by omega
  clear hm hm2
  go_enter Try.func3, Try.ntmps3
  go_wp2_with fail
  refine (hp _).mono ?_
  rintro e w' ⟨rfl, rfl⟩
  go_wp2_with fail
  refine (lines1_any v0 l 30 q _ h0 (by omega) hq.1 hq.2).mono ?_
  rintro e w1 ⟨va, a, rfl, sa, la, za, hb1⟩
  go_wp2_with fail
  refine (lines1_any v1 m 30 q _ (h1.later hb1) (by omega) hq.1 hq.2).mono ?_
  rintro e w2 ⟨vb, b, rfl, sb, lb, zb, hb2⟩
  have SA := Lib.hid (sa.later hb2)
  have SB := Lib.hid sb
  have BE := Lib.hid (bstep hb1 hb2)
  have ZA := Lib.hid (show ∀ s ∈ a, s.size ≤ 600 from fun s hs => by rw [za s hs]; decide)
  have ZB := Lib.hid (show ∀ s ∈ b, s.size ≤ 600 from fun s hs => by rw [zb s hs]; decide)
  clear sa sb za zb hb1 hb2 hp hsum hk h0 h1
  have M := Lib.hid (merged_any va vb va a b a w2 SA.out SB.out SA.out (by omega) (by omega) (by omega) ZA.out ZB.out ZA.out)
  rw [mergeR_left] at M
  go_wp2_with fail
  refine M.out.mono ?_
  rintro e w3 ⟨x, rfl, sx, hb3⟩
  have SA3 := Lib.hid (SA.out.later hb3)
  have SB3 := Lib.hid (SB.out.later hb3)
  have BE3 := Lib.hid (bstep BE.out hb3)
  have SX3 := Lib.hid sx
  clear M sx hb3 SA SB BE
  have M := Lib.hid (merged_any va va vb a a b w3 SA3.out SA3.out SB3.out (by omega) (by omega) (by omega) ZA.out ZA.out ZB.out)
  rw [mergeR_right] at M
  go_wp2_with fail
  refine M.out.mono ?_
  rintro e w4 ⟨y, rfl, sy, hb4⟩
  have SA4 := Lib.hid (SA3.out.later hb4)
  have SB4 := Lib.hid (SB3.out.later hb4)
  have BE4 := Lib.hid (bstep BE3.out hb4)
  have SX4 := Lib.hid (SX3.out.later hb4)
  have SY4 := Lib.hid sy
  clear M sy hb4 SA3 SB3 BE3 SX3
  have M := Lib.hid (merged_any va vb vb a b b w4 SA4.out SB4.out SB4.out (by omega) (by omega) (by omega) ZA.out ZB.out ZB.out)
  rw [mergeR_same] at M
  go_wp2_with fail
  refine M.out.mono ?_
  rintro e w5 ⟨z, rfl, sz, hb5⟩
  have SB5 := Lib.hid (SB4.out.later hb5)
  have BE5 := Lib.hid (bstep BE4.out hb5)
  have SX5 := Lib.hid (SX4.out.later hb5)
  have SY5 := Lib.hid (SY4.out.later hb5)
  have SZ5 := Lib.hid sz
  clear M sz hb5 SA4 SB4 BE4 SX4 SY4
  have T := Lib.hid (texts_any x vb b b w5 SX5.out SB5.out)
  rw [decide_eq_true rfl] at T
  go_wp2_with fail
  refine T.out.mono ?_
  rintro e w6 ⟨rfl, hb6⟩
  have SB6 := Lib.hid (SB5.out.later hb6)
  have BE6 := Lib.hid (bstep BE5.out hb6)
  have SY6 := Lib.hid (SY5.out.later hb6)
  have SZ6 := Lib.hid (SZ5.out.later hb6)
  clear T hb6 SB5 BE5 SX5 SY5 SZ5
  have T := Lib.hid (texts_any y vb b b w6 SY6.out SB6.out)
  rw [decide_eq_true rfl] at T
  go_wp2_with fail
  refine T.out.mono ?_
  rintro e w7 ⟨rfl, hb7⟩
  have SB7 := Lib.hid (SB6.out.later hb7)
  have BE7 := Lib.hid (bstep BE6.out hb7)
  have SZ7 := Lib.hid (SZ6.out.later hb7)
  clear T hb7 SB6 BE6 SY6 SZ6
  have T := Lib.hid (texts_any z vb b b w7 SZ7.out SB7.out)
  rw [decide_eq_true rfl] at T
  go_wp2_with fail
  refine T.out.mono ?_
  rintro e w8 ⟨rfl, hb8⟩
  have BE8 := bstep BE7.out hb8
  clear T hb8
  go_wp2_with fail
  go_ret
  exact ⟨rfl, BE8⟩
end Go.Proofs.Ytpgjjnbepkofdaa
