/-
  The walk of the law MergeTurned: whatever the slices and the number, it returns true and changes nothing that was there.
-/
import Derived.Test.YtpgjjnbepkofdaaMerged
import Derived.Test.YtpgjjnbepkofdaaLn
import Derived.Test.YtpgjjnbepkofdaaPick
namespace Go.Proofs.Ytpgjjnbepkofdaa
open Go.RowKit
set_option linter.unusedVariables false

set_option maxRecDepth 100000 in
set_option maxHeartbeats 4000000 in
theorem mergeTurned_walk (w : World) (v0 : Value) (l : List Int) (h0 : Row .i64 w v0 l) (v1 : Value) (m : List Int) (h1 : Row .i64 w v1 m) (v2 : Value) (o : List Int) (h2 : Row .i64 w v2 o) (kinds : Int) (hk : -9223372036854775808 ≤ kinds ∧ kinds ≤ 9223372036854775807) :
    Calls Try.prog 4 #[v0, v1, v2, .int .i64 kinds] w fun e w' => e = .returned (.bool true) ∧ Below w.heap.size w w' := by
  have hp := fun W => picked_any kinds 8 W hk (by omega) (by omega)
  have hm := Int.emod_nonneg kinds (show (8 : Int) ≠ 0 by omega)
  have hm2 := Int.emod_lt_of_pos kinds (show (0 : Int) < 8 by omega)
  generalize kinds % 8 = y at *
  obtain ⟨q, rfl⟩ : ∃ q : Nat, y = (q : Int) - 1 := ⟨(y + 1).toNat, by omega⟩
  have hq : 1 ≤ q ∧ q ≤ 8 := by omega
  have hsum : (1 : Int) + ((q : Int) - 1) = q := by omega
  clear hm hm2
  go_enter Try.func4, Try.ntmps4
  go_wp2_with fail
  refine (hp _).mono ?_
  rintro e w' ⟨rfl, rfl⟩
  go_wp2_with fail
  refine (lines1_any v0 l 25 q _ h0 (by omega) hq.1 hq.2).mono ?_
  rintro e w1 ⟨va, a, rfl, sa, la, za, hb1⟩
  go_wp2_with fail
  refine (lines1_any v1 m 25 q _ (h1.later hb1) (by omega) hq.1 hq.2).mono ?_
  rintro e w2 ⟨vb, b, rfl, sb, lb, zb, hb2⟩
  replace sa := sa.later hb2
  replace hb1 := bstep hb1 hb2
  clear hb2
  go_wp2_with fail
  refine (lines1_any v2 o 25 q _ (h2.later hb1) (by omega) hq.1 hq.2).mono ?_
  rintro e w3 ⟨vc, c, rfl, sc, lc, zc, hb2⟩
  have SA := Lib.hid (sa.later hb2)
  have SB := Lib.hid (sb.later hb2)
  have SC := Lib.hid sc
  have BE := Lib.hid (bstep hb1 hb2)
  have ZA := Lib.hid (show ∀ s ∈ a, s.size ≤ 600 from fun s hs => by rw [za s hs]; decide)
  have ZB := Lib.hid (show ∀ s ∈ b, s.size ≤ 600 from fun s hs => by rw [zb s hs]; decide)
  have ZC := Lib.hid (show ∀ s ∈ c, s.size ≤ 600 from fun s hs => by rw [zc s hs]; decide)
  clear sa sb sc za zb zc hb1 hb2 hp hsum hk h0 h1 h2
  have M := Lib.hid (merged_any va vb vc a b c w3 SA.out SB.out SC.out (by omega) (by omega) (by omega) ZA.out ZB.out ZC.out)
  have SW := Lib.hid (mergeR_swap a b c)
  go_wp2_with fail
  refine M.out.mono ?_
  rintro e w4 ⟨x, rfl, sx, hb3⟩
  have SA4 := Lib.hid (SA.out.later hb3)
  have SB4 := Lib.hid (SB.out.later hb3)
  have SC4 := Lib.hid (SC.out.later hb3)
  have BE4 := Lib.hid (bstep BE.out hb3)
  have SX4 := Lib.hid sx
  clear M sx hb3 SA SB SC BE
  have M := Lib.hid (merged_any va vc vb a c b w4 SA4.out SC4.out SB4.out (by omega) (by omega) (by omega) ZA.out ZC.out ZB.out)
  go_wp2_with fail
  refine M.out.mono ?_
  rintro e w5 ⟨y, rfl, sy, hb4⟩
  have BE5 := Lib.hid (bstep BE4.out hb4)
  have SX5 := Lib.hid (SX4.out.later hb4)
  have SY5 := Lib.hid sy
  clear M sy hb4 SA4 SB4 SC4 BE4 SX4
  obtain ⟨s1, s2, s3⟩ := SW.out
  generalize mergeR a b c = R at *
  generalize mergeR a c b = R' at *
  obtain ⟨R1, n⟩ := R
  obtain ⟨R2, n'⟩ := R'
  simp only at s1 s2 s3
  subst s1
  have S3 := Lib.hid s3
  obtain ⟨Ax, cx, rfl, hx1, hx2, _⟩ := id SX5.out
  obtain ⟨Ay, cy, rfl, hy1, hy2, _⟩ := id SY5.out
  clear s3 SW
  simp only at *
  rw [s2] at SX5 hx1 ⊢
  have S2 := Lib.hid s2
  clear s2
  rcases Nat.eq_zero_or_pos n with hn | hn
  · subst hn
    have T := Lib.hid (texts_any _ _ R1 R2 w5 SX5.out SY5.out)
    rw [decide_eq_true (S3.out rfl)] at T
    go_wp2_with fail
    refine T.out.mono ?_
    rintro e w6 ⟨rfl, hb6⟩
    have BE6 := bstep BE5.out hb6
    clear T hb6
    go_wp2_with fail
    go_ret
    exact ⟨rfl, BE6⟩
  · have t1 : decide ((0 : Int) < (n : Int)) = true := decide_eq_true (by omega)
    go_wp2_with fail
    go_ret
    exact ⟨rfl, BE5.out⟩
end Go.Proofs.Ytpgjjnbepkofdaa
