/-
  The walk of the law DiffLeast: whatever the slices and the number, it returns true and changes nothing that was there.
-/
import Derived.Test.YtoijeofchnmppaaDiffT
namespace Go.Proofs.Ytoijeofchnmppaa
open Go.RowKit
set_option linter.unusedVariables false

theorem least_keep (a b : List ByteArray) (i j k : Nat) (hi : i < a.length) (hj : j < b.length) (h : a[i] = b[j]) (hl : Dc.dc a b + 2 * k ≤ i + j + Dc.dc (a.drop i) (b.drop j)) :
    Dc.dc a b + 2 * (k + 1) ≤ (i + 1) + (j + 1) + Dc.dc (a.drop (i + 1)) (b.drop (j + 1)) := by
  rw [List.drop_eq_getElem_cons hi, List.drop_eq_getElem_cons hj, h, Dc.dc_keep] at hl; omega
theorem least_i (a b : List ByteArray) (i j k : Nat) (hi : i < a.length) (hl : Dc.dc a b + 2 * k ≤ i + j + Dc.dc (a.drop i) (b.drop j)) :
    Dc.dc a b + 2 * k ≤ (i + 1) + j + Dc.dc (a.drop (i + 1)) (b.drop j) := by
  rw [List.drop_eq_getElem_cons hi] at hl
  have := Dc.dc_del a[i] (a.drop (i + 1)) (b.drop j); omega
theorem least_j (a b : List ByteArray) (i j k : Nat) (hj : j < b.length) (hl : Dc.dc a b + 2 * k ≤ i + j + Dc.dc (a.drop i) (b.drop j)) :
    Dc.dc a b + 2 * k ≤ i + (j + 1) + Dc.dc (a.drop i) (b.drop (j + 1)) := by
  rw [List.drop_eq_getElem_cons hj] at hl
  have := Dc.dc_ins b[j] (a.drop i) (b.drop (j + 1)); omega
theorem least_end (a b : List ByteArray) (i j k : Nat) (hi : i ≤ a.length) (hj : j ≤ b.length) (hl : Dc.dc a b + 2 * k ≤ i + j + Dc.dc (a.drop i) (b.drop j)) : Dc.dc a b + 2 * k ≤ a.length + b.length := by
  have := Dc.dc_le (a.drop i) (b.drop j)
  simp only [List.length_drop] at this; omega

set_option maxRecDepth 100000 in
set_option maxHeartbeats 4000000 in
theorem diffLeast_walk (w : World) (v0 : Value) (l : List Int) (h0 : Row .i64 w v0 l) (v1 : Value) (m : List Int) (h1 : Row .i64 w v1 m) (kinds : Int) (hk : -9223372036854775808 ≤ kinds ∧ kinds ≤ 9223372036854775807) (v2 : Value) (o : List Int) (h2 : Row .i64 w v2 o) :
    Calls Try.prog 6 #[v0, v1, .int .i64 kinds, v2] w fun e w' => e = .returned (.bool true) ∧ Below w.heap.size w w' := by
  have hp := fun W => picked_any kinds 8 W hk (by omega) (by omega)
  have hm := Int.emod_nonneg kinds (show (8 : Int) ≠ 0 by omega)
  have hm2 := Int.emod_lt_of_pos kinds (show (0 : Int) < 8 by omega)
  generalize kinds % 8 = y at *
  obtain ⟨q, rfl⟩ : ∃ q : Nat, y = (q : Int) - 1 := ⟨(y + 1).toNat, by omega⟩
  have hq : 1 ≤ q ∧ q ≤ 8 := by omega
  have hsum : (1 : Int) + ((q : Int) - 1) = q := by omega
  clear hm hm2
  have hbd := h2.bd
  obtain ⟨A2, c2, rfl, hl2, hc2, hw2, hr2⟩ := id h2
  unfold maxLen at hc2
  go_enter Try.func6, Try.ntmps6
  go_wp2_with fail
  refine (hp _).mono ?_
  rintro e w' ⟨rfl, rfl⟩
  go_wp2_with fail
  refine (lines_at 30 30 rfl v0 l q _ h0 (by omega) hq.1 hq.2).mono ?_
  rintro e w1 ⟨va, a, rfl, sa, la, za, hb1⟩
  go_wp2_with fail
  refine (lines_at 30 30 rfl v1 m q _ (h1.later hb1) (by omega) hq.1 hq.2).mono ?_
  rintro e w2 ⟨vb, b, rfl, sb, lb, zb, hb2⟩
  replace sa := sa.later hb2
  replace hb2 := bstep hb1 hb2
  have hr2' := hr2.below hb2
  clear hb1 hp h0 h1 h2 hr2 hsum hk
  obtain ⟨A0, c0, rfl, hl0, hc0, hr0⟩ := id sa
  obtain ⟨A1, c1, rfl, hl1, hc1, hr1⟩ := id sb
  unfold maxLen at hc0 hc1
  have C1 := Lib.hid (fun W ha hb => costOf_any _ _ a b W (sa.later ha) (sb.later hb) (by omega) (by omega) za zb)
  go_wp2_with fail
  go_loopw [12, 13, 14, 15] (fun kv iv jv nv wr => ∃ (k i j n : Nat), kv = .int .i64 k ∧ iv = .int .i64 i ∧ jv = .int .i64 j ∧ nv = .int .i64 n ∧ i ≤ a.length ∧ j ≤ b.length ∧ n ≤ o.length ∧ k ≤ i ∧ Dc.dc a b + 2 * k ≤ i + j + Dc.dc (a.drop i) (b.drop j) ∧ Below w2.heap.size w2 wr) (fun _ _ _ nv _ => o.length - (intOf nv).toNat)
  case atStart => exact ⟨0, 0, 0, 0, rfl, rfl, rfl, rfl, by omega, by omega, by omega, by omega, by simp, Below.refl _ _⟩
  case round =>
    obtain ⟨k, i, j, n, rfl, rfl, rfl, rfl, hi, hj, hn, hki, hle, hbel⟩ := hrel
    by_cases hlt : n < o.length ∧ i < a.length ∧ j < b.length
    · obtain ⟨hln, hli, hlj⟩ := hlt
      obtain ⟨b2, o2, rfl, hbb2, hcell⟩ := Row.at_ (hr2'.below (hbel.mono hb2.size)) hln
      obtain ⟨b0, o0, rfl, hbb0, hcell0⟩ := SRow.at_ (hr0.below hbel) hli
      obtain ⟨b1, o1, rfl, hbb1, hcell1⟩ := SRow.at_ (hr1.below hbel) hlj
      have hb := hbd n
      generalize hg : o.getD n 0 = x at *
      clear hg
      have hp := fun W => picked_any x 4 W hb (by omega) (by omega)
      have hm := Int.emod_nonneg x (show (4 : Int) ≠ 0 by omega)
      have hm2 := Int.emod_lt_of_pos x (show (0 : Int) < 4 by omega)
      generalize x % 4 = y at *
      have LK := Lib.hid (fun h => least_keep a b i j k hli hlj h hle)
      have LI := Lib.hid (least_i a b i j k hli hle)
      have LJ := Lib.hid (least_j a b i j k hlj hle)
      clear hle
      have hy : y = 0 ∨ y = 1 ∨ y = 2 ∨ y = 3 := by omega
      clear hm hm2
      by_cases hs : a[i] = b[j]
      · have hq := bytes_eq hs
        have LK2 := Lib.hid (LK.out hs)
        generalize a[i] = s at *
        generalize b[j] = t at *
        clear hs LK
        rcases hy with rfl | rfl | rfl | rfl
        · go_wp2_with fail
          refine (hp _).mono ?_
          rintro e w' ⟨rfl, rfl⟩
          go_wp2_with fail
          go_quiet (fail)
          go_wp2_with fail
          go_roundw
          case rel => exact ⟨k + 1, i + 1, j + 1, n + 1, by go_num, by go_num, by go_num, by go_num, by omega, by omega, by omega, by omega, LK2.out, below_drewN hbel _⟩
          case measure => simp [intOf]; omega
        · go_wp2_with fail
          refine (hp _).mono ?_
          rintro e w' ⟨rfl, rfl⟩
          go_wp2_with fail
          go_quiet (fail)
          go_wp2_with fail
          go_roundw
          case rel => exact ⟨k + 1, i + 1, j + 1, n + 1, by go_num, by go_num, by go_num, by go_num, by omega, by omega, by omega, by omega, LK2.out, below_drewN hbel _⟩
          case measure => simp [intOf]; omega
        · go_wp2_with fail
          refine (hp _).mono ?_
          rintro e w' ⟨rfl, rfl⟩
          go_wp2_with fail
          go_quiet (fail)
          go_wp2_with fail
          go_roundw
          case rel => exact ⟨k, i + 1, j, n + 1, by go_num, by go_num, by go_num, by go_num, by omega, by omega, by omega, by omega, LI.out, below_drewN hbel _⟩
          case measure => simp [intOf]; omega
        · go_wp2_with fail
          refine (hp _).mono ?_
          rintro e w' ⟨rfl, rfl⟩
          go_wp2_with fail
          go_quiet (fail)
          go_wp2_with fail
          go_roundw
          case rel => exact ⟨k, i, j + 1, n + 1, by go_num, by go_num, by go_num, by go_num, by omega, by omega, by omega, by omega, LJ.out, below_drewN hbel _⟩
          case measure => simp [intOf]; omega
      · have hq := bytes_ne hs
        generalize a[i] = s at *
        generalize b[j] = t at *
        clear hs LK
        rcases hy with rfl | rfl | rfl | rfl
        · go_wp2_with fail
          refine (hp _).mono ?_
          rintro e w' ⟨rfl, rfl⟩
          go_wp2_with fail
          go_quiet (fail)
          go_wp2_with fail
          go_roundw
          case rel => exact ⟨k, i + 1, j, n + 1, by go_num, by go_num, by go_num, by go_num, by omega, by omega, by omega, by omega, LI.out, below_drewN hbel _⟩
          case measure => simp [intOf]; omega
        · go_wp2_with fail
          refine (hp _).mono ?_
          rintro e w' ⟨rfl, rfl⟩
          go_wp2_with fail
          go_quiet (fail)
          go_wp2_with fail
          go_roundw
          case rel => exact ⟨k, i, j + 1, n + 1, by go_num, by go_num, by go_num, by go_num, by omega, by omega, by omega, by omega, LJ.out, below_drewN hbel _⟩
          case measure => simp [intOf]; omega
        · go_wp2_with fail
          refine (hp _).mono ?_
          rintro e w' ⟨rfl, rfl⟩
          go_wp2_with fail
          go_quiet (fail)
          go_wp2_with fail
          go_roundw
          case rel => exact ⟨k, i + 1, j, n + 1, by go_num, by go_num, by go_num, by go_num, by omega, by omega, by omega, by omega, LI.out, below_drewN hbel _⟩
          case measure => simp [intOf]; omega
        · go_wp2_with fail
          refine (hp _).mono ?_
          rintro e w' ⟨rfl, rfl⟩
          go_wp2_with fail
          go_quiet (fail)
          go_wp2_with fail
          go_roundw
          case rel => exact ⟨k, i, j + 1, n + 1, by go_num, by go_num, by go_num, by go_num, by omega, by omega, by omega, by omega, LJ.out, below_drewN hbel _⟩
          case measure => simp [intOf]; omega
    · have L := least_end a b i j k hi hj hle
      clear hle
      have hbel2 := Lib.hid hbel
      have sA := C1.out wr hbel hbel
      clear C1
      generalize Dc.dc a b = x at *
      by_cases g1 : n < o.length
      · by_cases g2 : i < a.length
        · have g3 : ¬ j < b.length := by omega
          clear hlt
          go_wp2_with fail
          refine sA.mono ?_
          rintro e w4 ⟨rfl, hb4⟩
          go_wp2_with fail
          go_ret
          exact ⟨ret_bool (by first | rfl | (simp; omega)), bstep hb2 (bstep hbel2.out hb4)⟩
        · clear hlt
          go_wp2_with fail
          refine sA.mono ?_
          rintro e w4 ⟨rfl, hb4⟩
          go_wp2_with fail
          go_ret
          exact ⟨ret_bool (by first | rfl | (simp; omega)), bstep hb2 (bstep hbel2.out hb4)⟩
      · clear hlt
        go_wp2_with fail
        refine sA.mono ?_
        rintro e w4 ⟨rfl, hb4⟩
        go_wp2_with fail
        go_ret
        exact ⟨ret_bool (by first | rfl | (simp; omega)), bstep hb2 (bstep hbel2.out hb4)⟩
end Go.Proofs.Ytoijeofchnmppaa
