/-
  The walk of the law DiffCommon: whatever the slices and the number, it returns true and changes nothing that was there.
-/
import Derived.Test.YtoijeofchnmppaaDiffT
namespace Go.Proofs.Ytoijeofchnmppaa
open Go.RowKit
set_option linter.unusedVariables false

set_option maxRecDepth 100000 in
set_option maxHeartbeats 4000000 in
theorem diffCommon_walk (w : World) (v0 : Value) (l : List Int) (h0 : Row .i64 w v0 l) (v1 : Value) (m : List Int) (h1 : Row .i64 w v1 m) (v2 : Value) (o : List Int) (h2 : Row .i64 w v2 o) (v3 : Value) (p : List Int) (h3 : Row .i64 w v3 p) (kinds : Int) (hk : -9223372036854775808 ≤ kinds ∧ kinds ≤ 9223372036854775807) :
    Calls Try.prog 8 #[v0, v1, v2, v3, .int .i64 kinds] w fun e w' => e = .returned (.bool true) ∧ Below w.heap.size w w' := by
  have hp := fun W => picked_any kinds 8 W hk (by omega) (by omega)
  have hm := Int.emod_nonneg kinds (show (8 : Int) ≠ 0 by omega)
  have hm2 := Int.emod_lt_of_pos kinds (show (0 : Int) < 8 by omega)
  generalize kinds % 8 = y at *
  obtain ⟨q, rfl⟩ : ∃ q : Nat, y = (q : Int) - 1 := ⟨(y + 1).toNat, by omega⟩
  have hq : 1 ≤ q ∧ q ≤ 8 := by omega
  have hsum : (1 : Int) + ((q : Int) - 1) = q := by omega
  clear hm hm2
  obtain ⟨i0, hi, hz0, hz1, hz2⟩ := info_parts string_info
  go_enter Try.func8, Try.ntmps8
  go_wp2_with fail
  refine (hp _).mono ?_
  rintro e w' ⟨rfl, rfl⟩
  go_wp2_with fail
  refine (lines_at 20 20 rfl v0 l q _ h0 (by omega) hq.1 hq.2).mono ?_
  rintro e w1 ⟨va, a, rfl, sa, la, za, hb1⟩
  go_wp2_with fail
  refine (lines_at 20 20 rfl v1 m q _ (h1.later hb1) (by omega) hq.1 hq.2).mono ?_
  rintro e w2 ⟨vb, b, rfl, sb, lb, zb, hb2⟩
  replace sa := sa.later hb2
  replace hb1 := bstep hb1 hb2
  clear hb2
  go_wp2_with fail
  refine (lines_at 10 10 rfl v2 o q _ (h2.later hb1) (by omega) hq.1 hq.2).mono ?_
  rintro e w3 ⟨vh, h, rfl, sh, lh, zh, hb2⟩
  replace sa := sa.later hb2
  replace sb := sb.later hb2
  replace hb1 := bstep hb1 hb2
  clear hb2
  go_wp2_with fail
  refine (lines_at 10 10 rfl v3 p q _ (h3.later hb1) (by omega) hq.1 hq.2).mono ?_
  rintro e w4 ⟨vt, t, rfl, st, lt, zt, hb2⟩
  replace sa := sa.later hb2
  replace sb := sb.later hb2
  replace sh := sh.later hb2
  replace hb1 := bstep hb1 hb2
  clear hb2 hp hsum hk h0 h1 h2 h3
  obtain ⟨A0, c0, rfl, hl0, hc0, hr0⟩ := id sa
  obtain ⟨A1, c1, rfl, hl1, hc1, hr1⟩ := id sb
  obtain ⟨Ah, ch, rfl, hlh, hch, hrh⟩ := id sh
  obtain ⟨At, ct, rfl, hlt, hct, hrt⟩ := id st
  go_wp2_with (at_builtin; refine wpList_append_any _ rfl (.const (.slice none 0 0)) (.tmp 36) _ rfl w4.heap.size 9 i0 _ 1 16 Try.underlying37 hi hz0 hz1 hz2 rfl (by decide) (.slice none 0 0) 0 [] rfl (World.ownsRow_nil _ _ _ _) _ _ _ _ _ rfl hrh (by simp [Value.oneCell']) (by unfold maxLen; omega) (by omega) (Nat.le_refl _) ?_)
  intro u1 w5 own5 g5 _
  have b5 : Below w4.heap.size w4 w5 := (Below.refl _ _).grown g5 (Nat.le_refl _) (by simp [Value.ownBlock])
  clear g5
  go_wp2_with (at_builtin; refine wpList_append_any _ rfl (.tmp 37) (.tmp 38) _ rfl w4.heap.size 9 i0 _ 1 16 Try.underlying37 hi hz0 hz1 hz2 rfl (by decide) u1 _ _ rfl own5 _ _ _ _ _ rfl (hr0.below b5) (by simp [Value.oneCell']) (by unfold maxLen; omega) (by omega) (b5.size) ?_)
  intro u2 w6 own6 g6 _
  have b6 : Below w4.heap.size w4 w6 := b5.grown g6 b5.size (fun g hg => (own5.lt g hg).1)
  clear g6 own5 b5
  go_wp2_with (at_builtin; refine wpList_append_any _ rfl (.tmp 39) (.tmp 40) _ rfl w4.heap.size 9 i0 _ 1 16 Try.underlying37 hi hz0 hz1 hz2 rfl (by decide) u2 _ _ rfl own6 _ _ _ _ _ rfl (hrt.below b6) (by simp [Value.oneCell']) (by unfold maxLen; omega) (by omega) (b6.size) ?_)
  intro u3 w7 own7 g7 _
  have b7 : Below w4.heap.size w4 w7 := b6.grown g7 b6.size (fun g hg => (own6.lt g hg).1)
  clear g7 own6 b6
  have su : SRow w7 u3 (h ++ a ++ t) := SRow.of_own (by simpa [Nat.add_assoc] using own7)
  clear own7
  replace sa := sa.later b7
  replace sb := sb.later b7
  replace sh := sh.later b7
  replace st := st.later b7
  replace hb1 := bstep hb1 b7
  clear b7 hr0 hr1 hrh hrt
  obtain ⟨A0', c0', e0, -, -, hr0⟩ := id sa
  obtain ⟨A1', c1', e1, -, -, hr1⟩ := id sb
  obtain ⟨Ah', ch', e2, -, -, hrh⟩ := id sh
  obtain ⟨At', ct', e3, -, -, hrt⟩ := id st
  cases e0; cases e1; cases e2; cases e3
  go_wp2_with (at_builtin; refine wpList_append_any _ rfl (.const (.slice none 0 0)) (.tmp 42) _ rfl w7.heap.size 9 i0 _ 1 16 Try.underlying37 hi hz0 hz1 hz2 rfl (by decide) (.slice none 0 0) 0 [] rfl (World.ownsRow_nil _ _ _ _) _ _ _ _ _ rfl hrh (by simp [Value.oneCell']) (by unfold maxLen; omega) (by omega) (Nat.le_refl _) ?_)
  intro u4 w8 own5 g5 _
  have b5 : Below w7.heap.size w7 w8 := (Below.refl _ _).grown g5 (Nat.le_refl _) (by simp [Value.ownBlock])
  clear g5
  go_wp2_with (at_builtin; refine wpList_append_any _ rfl (.tmp 43) (.tmp 44) _ rfl w7.heap.size 9 i0 _ 1 16 Try.underlying37 hi hz0 hz1 hz2 rfl (by decide) u4 _ _ rfl own5 _ _ _ _ _ rfl (hr1.below b5) (by simp [Value.oneCell']) (by unfold maxLen; omega) (by omega) (b5.size) ?_)
  intro u5 w9 own6 g6 _
  have b6 : Below w7.heap.size w7 w9 := b5.grown g6 b5.size (fun g hg => (own5.lt g hg).1)
  clear g6 own5 b5
  go_wp2_with (at_builtin; refine wpList_append_any _ rfl (.tmp 45) (.tmp 46) _ rfl w7.heap.size 9 i0 _ 1 16 Try.underlying37 hi hz0 hz1 hz2 rfl (by decide) u5 _ _ rfl own6 _ _ _ _ _ rfl (hrt.below b6) (by simp [Value.oneCell']) (by unfold maxLen; omega) (by omega) (b6.size) ?_)
  intro u6 w10 own7 g7 _
  have b7 : Below w7.heap.size w7 w10 := b6.grown g7 b6.size (fun g hg => (own6.lt g hg).1)
  clear g7 own6 b6
  have sv : SRow w10 u6 (h ++ b ++ t) := SRow.of_own (by simpa [Nat.add_assoc] using own7)
  clear own7
  replace sa := sa.later b7
  replace sb := sb.later b7
  replace su := su.later b7
  replace hb1 := bstep hb1 b7
  clear b7 hr0 hr1 hrh hrt sh st
  have D1 := Lib.hid (show Dc.dc (h ++ a ++ t) (h ++ b ++ t) = Dc.dc a b by rw [Dc.dc_tail, Dc.dc_head])
  have zu : ∀ s ∈ h ++ a ++ t, s.size ≤ 600 := by
    intro s hs; simp only [List.mem_append] at hs
    rcases hs with (h1 | h1) | h1
    · exact zh s h1
    · exact za s h1
    · exact zt s h1
  have zv : ∀ s ∈ h ++ b ++ t, s.size ≤ 600 := by
    intro s hs; simp only [List.mem_append] at hs
    rcases hs with (h1 | h1) | h1
    · exact zh s h1
    · exact zb s h1
    · exact zt s h1
  have C2 := Lib.hid (fun W hu hv => costOf_any u3 u6 _ _ W hu hv (by simp; omega) (by simp; omega) zu zv)
  rw [D1.out] at C2
  clear D1 zu zv
  go_wp2_with fail
  refine (costOf_any _ _ a b _ sa sb (by omega) (by omega) za zb).mono ?_
  rintro e w11 ⟨rfl, hb2⟩
  replace sa := sa.later hb2
  replace sb := sb.later hb2
  replace su := su.later hb2
  replace sv := sv.later hb2
  replace hb1 := bstep hb1 hb2
  clear hb2
  go_wp2_with fail
  refine (C2.out _ su sv).mono ?_
  rintro e w12 ⟨rfl, hb2⟩
  replace sa := sa.later hb2
  replace sb := sb.later hb2
  replace hb1 := bstep hb1 hb2
  clear hb2 C2 su sv
  obtain ⟨A0', c0', e0, -, -, hr0⟩ := id sa
  cases e0
  go_wp2_with (at_builtin; refine wpList_append_any _ rfl (.const (.slice none 0 0)) (.tmp 54) _ rfl w12.heap.size 9 i0 _ 1 16 Try.underlying37 hi hz0 hz1 hz2 rfl (by decide) (.slice none 0 0) 0 [] rfl (World.ownsRow_nil _ _ _ _) _ _ _ _ _ rfl hr0 (by simp [Value.oneCell']) (by unfold maxLen; omega) (by omega) (Nat.le_refl _) ?_)
  intro u7 w13 own5 g5 _
  have b5 : Below w12.heap.size w12 w13 := (Below.refl _ _).grown g5 (Nat.le_refl _) (by simp [Value.ownBlock])
  clear g5
  go_wp2_with (at_builtin; refine wpList_app1 (W := w13) rfl (.tmp 55) (.tmp 56) _ rfl w12.heap.size 9 _ 16 Try.underlying37 string_info rfl _ _ _ rfl own5 _ rfl rfl rfl (by omega) (by omega) b5.size ?_)
  intro u8 w14 own6 hbt _
  have b6 : Below w12.heap.size w12 w14 := hbt _ (Nat.le_refl _) _ b5
  clear hbt own5 b5
  have sc : SRow w14 u8 (a ++ [⟨#[99]⟩]) := SRow.of_own (by simpa [Nat.add_assoc] using own6)
  clear own6
  replace sb := sb.later b6
  replace hb1 := bstep hb1 b6
  clear b6
  have D2 := Dc.dc_more (⟨#[99]⟩ : ByteArray) a b
  have zc : ∀ s ∈ a ++ [(⟨#[99]⟩ : ByteArray)], s.size ≤ 600 := by
    intro s hs; simp only [List.mem_append, List.mem_singleton] at hs
    rcases hs with h1 | h1
    · exact za s h1
    · subst h1; decide
  have C3 := costOf_any u8 _ _ b _ sc sb (by simp; omega) (by omega) zc zb
  clear zc
  generalize Dc.dc (a ++ [(⟨#[99]⟩ : ByteArray)]) b = z at *
  have D3 := Dc.dc_le a b
  generalize Dc.dc a b = x at *
  go_wp2_with fail
  refine C3.mono ?_
  rintro e w15 ⟨rfl, hb2⟩
  replace hb1 := bstep hb1 hb2
  clear hb2 C3 sa sb sc za zb zh zt
  by_cases hzx : z = x + 1
  · subst hzx
    go_wp2_with fail
    go_ret
    exact ⟨ret_bool (by first | rfl | (simp; omega)), hb1⟩
  · have hzx2 : x = z + 1 := by omega
    subst hzx2
    go_wp2_with fail
    go_ret
    exact ⟨ret_bool (by first | rfl | (simp; omega)), hb1⟩
end Go.Proofs.Ytoijeofchnmppaa
