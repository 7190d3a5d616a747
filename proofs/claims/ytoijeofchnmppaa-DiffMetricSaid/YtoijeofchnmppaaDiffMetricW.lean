/-
  The walk of the law DiffMetric: whatever the slices and the number, it returns true and changes nothing that was there.
-/
import Derived.Test.YtoijeofchnmppaaDiffT
namespace Go.Proofs.Ytoijeofchnmppaa
open Go.RowKit
set_option linter.unusedVariables false

set_option maxRecDepth 100000 in
set_option maxHeartbeats 4000000 in
theorem diffMetric_walk (w : World) (v0 : Value) (l : List Int) (h0 : Row .i64 w v0 l) (v1 : Value) (m : List Int) (h1 : Row .i64 w v1 m) (v2 : Value) (o : List Int) (h2 : Row .i64 w v2 o) (kinds : Int) (hk : -9223372036854775808 ≤ kinds ∧ kinds ≤ 9223372036854775807) :
    Calls Try.prog 7 #[v0, v1, v2, .int .i64 kinds] w fun e w' => e = .returned (.bool true) ∧ Below w.heap.size w w' := by
  have hp := fun W => picked_any kinds 8 W hk (by omega) (by omega)
  have hm := Int.emod_nonneg kinds (show (8 : Int) ≠ 0 by omega)
  have hm2 := Int.emod_lt_of_pos kinds (show (0 : Int) < 8 by omega)
  generalize kinds % 8 = y at *
  obtain ⟨q, rfl⟩ : ∃ q : Nat, y = (q : Int) - 1 := ⟨(y + 1).toNat, by omega⟩
  have hq : 1 ≤ q ∧ q ≤ 8 := by omega
  have hsum : (1 : Int) + ((q : Int) - 1) = q := by omega
  clear hm hm2
  go_enter Try.func7, Try.ntmps7
  go_wp2_with fail
  refine (hp _).mono ?_
  rintro e w' ⟨rfl, rfl⟩
  go_wp2_with fail
  refine (lines_at 25 25 rfl v0 l q _ h0 (by omega) hq.1 hq.2).mono ?_
  rintro e w1 ⟨va, a, rfl, sa, la, za, hb1⟩
  go_wp2_with fail
  refine (lines_at 25 25 rfl v1 m q _ (h1.later hb1) (by omega) hq.1 hq.2).mono ?_
  rintro e w2 ⟨vb, b, rfl, sb, lb, zb, hb2⟩
  replace sa := sa.later hb2
  replace hb2 := bstep hb1 hb2
  go_wp2_with fail
  refine (lines_at 25 25 rfl v2 o q _ (h2.later hb2) (by omega) hq.1 hq.2).mono ?_
  rintro e w3 ⟨vc, c, rfl, sc, lc, zc, hb3⟩
  replace sa := sa.later hb3
  replace sb := sb.later hb3
  replace hb3 := bstep hb2 hb3
  clear hb1 hb2 hp h0 h1 h2
  obtain ⟨A0, c0, rfl, -⟩ := id sa
  obtain ⟨A1, c1, rfl, -⟩ := id sb
  obtain ⟨A2, c2, rfl, -⟩ := id sc
  have t1 := Dc.dc_tri _ a b c (Nat.le_refl _)
  have t2 := Dc.dc_le a b
  have t3 := Dc.dc_par a b
  have t4 := Dc.dc_le b c
  have t5 := Dc.dc_le a c
  have t6 := Dc.dc_comm b a
  have t7 := Dc.dc_self a
  have C1 := Lib.hid (fun va vb W ha hb => costOf_any va vb a b W ha hb (by omega) (by omega) za zb)
  have C2 := Lib.hid (fun va vb W ha hb => costOf_any va vb b a W ha hb (by omega) (by omega) zb za)
  have C3 := Lib.hid (fun va W ha => costOf_any va va a a W ha ha (by omega) (by omega) za za)
  have C4 := Lib.hid (fun va vb W ha hb => costOf_any va vb a c W ha hb (by omega) (by omega) za zc)
  have C5 := Lib.hid (fun va vb W ha hb => costOf_any va vb b c W ha hb (by omega) (by omega) zb zc)
  have C6 := Lib.hid (fun va vb W ha hb => texts_any va vb a b W ha hb)
  rw [t6] at C2
  rw [t7] at C3
  clear t6 t7
  have hz : (((Dc.dc a b : Nat) : Int) == 0) = decide (a = b) := by
    by_cases e : a = b
    · subst e; simp [Dc.dc_self]
    · have : Dc.dc a b ≠ 0 := fun h => e (Dc.dc_zero a b h)
      rw [decide_eq_false e, beq_eq_false_iff_ne]; omega
  generalize Dc.dc a b = x at *
  generalize Dc.dc a c = y at *
  generalize Dc.dc b c = z at *
  have S0 := Lib.hid sa
  have S1 := Lib.hid sb
  have S2 := Lib.hid sc
  clear sa sb sc za zb zc
  generalize decide (a = b) = p at *
  generalize a.length = na at *
  generalize b.length = nb at *
  generalize c.length = nc at *
  have T1 := Lib.hid t1
  have T3 := Lib.hid t3
  clear t1 t3
  go_wp2_with fail
  refine (C1.out _ _ _ S0.out S1.out).mono ?_
  rintro e w4 ⟨rfl, hb4⟩
  replace S0 := Lib.hid (S0.out.later hb4)
  replace S1 := Lib.hid (S1.out.later hb4)
  replace S2 := Lib.hid (S2.out.later hb4)
  replace hb3 := bstep hb3 hb4
  clear hb4
  go_wp2_with fail
  refine (C2.out _ _ _ S1.out S0.out).mono ?_
  rintro e w5 ⟨rfl, hb4⟩
  replace S0 := Lib.hid (S0.out.later hb4)
  replace S1 := Lib.hid (S1.out.later hb4)
  replace S2 := Lib.hid (S2.out.later hb4)
  replace hb3 := bstep hb3 hb4
  clear hb4
  go_wp2_with fail
  refine (C3.out _ _ S0.out).mono ?_
  rintro e w6 ⟨rfl, hb4⟩
  replace S0 := Lib.hid (S0.out.later hb4)
  replace S1 := Lib.hid (S1.out.later hb4)
  replace S2 := Lib.hid (S2.out.later hb4)
  replace hb3 := bstep hb3 hb4
  clear hb4
  go_wp2_with fail
  refine (C6.out _ _ _ S0.out S1.out).mono ?_
  rintro e w7 ⟨rfl, hb4⟩
  replace S0 := Lib.hid (S0.out.later hb4)
  replace S1 := Lib.hid (S1.out.later hb4)
  replace S2 := Lib.hid (S2.out.later hb4)
  replace hb3 := bstep hb3 hb4
  clear hb4
  have hpp : (p == p) = true := by simp
  go_wp2_with fail
  refine (C4.out _ _ _ S0.out S2.out).mono ?_
  rintro e w8 ⟨rfl, hb4⟩
  replace S1 := Lib.hid (S1.out.later hb4)
  replace S2 := Lib.hid (S2.out.later hb4)
  replace hb3 := bstep hb3 hb4
  clear hb4
  go_wp2_with fail
  refine (C5.out _ _ _ S1.out S2.out).mono ?_
  rintro e w9 ⟨rfl, hb4⟩
  replace hb3 := bstep hb3 hb4
  have t1 := T1.out
  have t3 := T3.out
  clear T1 T3
  go_wp2_with fail
  all_goals (go_ret; exact ⟨ret_bool (by first | rfl | (simp; omega)), hb3⟩)
end Go.Proofs.Ytoijeofchnmppaa
