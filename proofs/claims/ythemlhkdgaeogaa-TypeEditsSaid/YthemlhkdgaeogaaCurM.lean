/-
  The walk of Cursors: cursors of raw numbers.
-/
import Derived.Test.YthemlhkdgaeogaaCurF
import Derived.Test.YthemlhkdgaeogaaText
namespace Go.Proofs.Ythemlhkdgaeogaa
open Go.RowKit Go.Shelf
set_option linter.unusedVariables false
set_option linter.unusedSimpArgs false

theorem pickc_nat (a n : Int) (ha : -9223372036854775808 ≤ a ∧ a ≤ 9223372036854775807) (hn : 0 < n) (hn2 : n ≤ 4611686018427387904) : ∃ q : Nat, (q : Int) < n ∧ ∀ W, Calls Try.prog 19 #[.int .i64 a, .int .i64 n] W fun e w' => e = .returned (.int .i64 (q : Int)) ∧ W = w' := by
  have h1 := Int.emod_nonneg a (show n ≠ 0 by omega)
  have h2 := Int.emod_lt_of_pos a hn
  refine ⟨(a % n).toNat, by omega, fun W => ?_⟩
  rw [show (((a % n).toNat : Nat) : Int) = a % n by omega]
  exact (picked_any a n W ha hn hn2).mono fun e w' h => ⟨h.1, h.2⟩
def CursorsPost (N n : Nat) (w : World) (e : Ending) (w' : World) : Prop := ∃ v o, e = .returned v ∧ w'.ownsRow w.heap.size 46 2 v o.length (cellsOf spc o) ∧ Upto n o ∧ o.length ≤ N ∧ Below w.heap.size w w'
set_option maxRecDepth 100000 in
set_option maxHeartbeats 4000000 in
theorem cursors_any (v : Value) (xs : List Int) (N n : Nat) (w : World) (h : Row .i64 w v xs) (hN : N ≤ 40) (hn : n ≤ 600) :
    Calls Try.prog 20 #[v, .int .i64 (N : Int), .int .i64 (n : Int)] w (CursorsPost N n w) := by
  have hbd := h.bd
  obtain ⟨A, c, rfl, hl, hc, hw, hrd⟩ := h
  unfold maxLen at hc
  have HRD := Lib.hid hrd
  have HBD := Lib.hid hbd
  clear hrd hbd hw
  go_enter Try.func20, Try.ntmps20
  go_wp2_with fail
  go_loopw [7, 8, 9, 10, 11] (fun vo vi _ _ _ wr => ∃ (i : Nat) (o : List Sp), vi = .int .i64 (i : Int) ∧ i ≤ N ∧ o.length = i ∧ Hid (Upto n o) ∧ wr.ownsRow w.heap.size 46 2 vo o.length (cellsOf spc o) ∧ Below w.heap.size w wr) (fun _ vi _ _ _ _ => N - (intOf vi).toNat)
  case atStart => exact ⟨0, [], rfl, Nat.zero_le _, rfl, Lib.hid (fun x hx => nomatch hx), World.ownsRow_nil _ _ _ _, Below.refl _ _⟩
  case round =>
    obtain ⟨i, o, rfl, hiN, hol, HU, hown, hb⟩ := hrel
    have HL := Lib.hid hol
    have hol40 : o.length ≤ 40 := by omega
    clear hol
    have hbs := hb.size
    obtain ⟨Ao, co, rfl, ho1, ho2⟩ := own_slice hown
    by_cases hlt : i < xs.length
    · by_cases hiN' : i < N
      · obtain ⟨b, off, rfl, hbb, x0⟩ := Row.at_ (HRD.out.below hb) hlt
        obtain ⟨p, hp, KP⟩ := pickc_nat (xs.getD i 0) ((n : Int) + 1) (HBD.out i) (by omega) (by omega)
        obtain ⟨q, hq, KQ⟩ := pickc_nat ((xs.getD i 0).tdiv 1000) 6 (tdiv_bd _ _ (by omega) (HBD.out i)) (by omega) (by omega)
        obtain ⟨r, hr, KR⟩ := pickc_nat ((xs.getD i 0).tdiv 7) 2 (tdiv_bd _ _ (by omega) (HBD.out i)) (by omega) (by omega)
        have KP := Lib.hid KP
        have KQ := Lib.hid KQ
        have KR := Lib.hid KR
        have hw1 := IntWalk.i64_in ((xs.getD i 0).tdiv 1000) (tdiv_bd _ _ (by omega) (HBD.out i))
        have hw2 := IntWalk.i64_in ((xs.getD i 0).tdiv 7) (tdiv_bd _ _ (by omega) (HBD.out i))
        generalize xs.getD i 0 = y at *
        obtain ⟨t, ht⟩ : ∃ t : Nat, t = min n (p + q) := ⟨_, rfl⟩
        have htn : t ≤ n := by omega
        have hmin : min (n : Int) ((p : Int) + (q : Int)) = (t : Int) := by omega
        clear ht
        have hbw : b < wr.heap.size := Nat.lt_of_lt_of_le hbb hbs
        have HOW := Lib.hid (hown.alloc (.cells #[.int .i64 (p : Int), .int .i64 (t : Int)] 46))
        have HBW := Lib.hid (hb.alloc hbs (.cells #[.int .i64 (p : Int), .int .i64 (t : Int)] 46))
        have HOW2 := Lib.hid (hown.alloc (.cells #[.int .i64 (t : Int), .int .i64 (p : Int)] 46))
        have HBW2 := Lib.hid (hb.alloc hbs (.cells #[.int .i64 (t : Int), .int .i64 (p : Int)] 46))
        clear hown hb
        rcases Nat.eq_zero_or_pos r with rfl | hr1
        · replace HOW := HOW2
          replace HBW := HBW2
          go_wp2_with fail
          refine (KP.out _).mono ?_
          rintro e w' ⟨rfl, rfl⟩
          go_wp2_with fail
          refine (KQ.out _).mono ?_
          rintro e w' ⟨rfl, rfl⟩
          go_wp2_with fail
          refine (KR.out _).mono ?_
          rintro e w' ⟨rfl, rfl⟩
          go_wp2_with (at_builtin; go_loud (refine wpList_appN rfl (.tmp 53) (.tmp 55) _ rfl w.heap.size 46 _ 2 16 Try.underlying43 cur_info rfl (by decide) (.slice Ao o.length co) o.length _ rfl HOW.out [.int .i64 (t : Int), .int .i64 (p : Int)] rfl _ rfl (by simp) rfl (spc_one ⟨t, p⟩) (by omega) (by omega) HBW.out.size ?_; intro v8 w8 ho8 hB8 hg8; have HO8 := Lib.hid ho8; have HB8 := Lib.hid (hB8 _ (Nat.le_refl _) _ HBW.out); clear ho8 hB8 hg8))
          refine ⟨⟨i + 1, o ++ [⟨t, p⟩], by go_num, by omega, by rw [List.length_append, HL.out]; rfl, Lib.hid ?_, ?_, HB8.out⟩, by simp [intOf]; omega⟩
          · intro x hx
            rcases List.mem_append.1 hx with hx | hx
            · exact HU.out x hx
            · rw [List.mem_singleton] at hx; subst hx; exact ⟨show t ≤ n by omega, show p ≤ n by omega⟩
          · rw [cellsOf_snoc, List.length_append]
            exact HO8.out
        · obtain rfl : r = 1 := by omega
          go_wp2_with fail
          refine (KP.out _).mono ?_
          rintro e w' ⟨rfl, rfl⟩
          go_wp2_with fail
          refine (KQ.out _).mono ?_
          rintro e w' ⟨rfl, rfl⟩
          go_wp2_with fail
          refine (KR.out _).mono ?_
          rintro e w' ⟨rfl, rfl⟩
          go_wp2_with (at_builtin; go_loud (refine wpList_appN rfl (.tmp 53) (.tmp 55) _ rfl w.heap.size 46 _ 2 16 Try.underlying43 cur_info rfl (by decide) (.slice Ao o.length co) o.length _ rfl HOW.out [.int .i64 (p : Int), .int .i64 (t : Int)] rfl _ rfl (by simp) rfl (spc_one ⟨p, t⟩) (by omega) (by omega) HBW.out.size ?_; intro v8 w8 ho8 hB8 hg8; have HO8 := Lib.hid ho8; have HB8 := Lib.hid (hB8 _ (Nat.le_refl _) _ HBW.out); clear ho8 hB8 hg8))
          refine ⟨⟨i + 1, o ++ [⟨p, t⟩], by go_num, by omega, by rw [List.length_append, HL.out]; rfl, Lib.hid ?_, ?_, HB8.out⟩, by simp [intOf]; omega⟩
          · intro x hx
            rcases List.mem_append.1 hx with hx | hx
            · exact HU.out x hx
            · rw [List.mem_singleton] at hx; subst hx; exact ⟨show p ≤ n by omega, show t ≤ n by omega⟩
          · rw [cellsOf_snoc, List.length_append]
            exact HO8.out
      · go_wp2_with fail
        go_ret
        exact ⟨_, o, rfl, hown, HU.out, by have := HL.out; omega, hb⟩
    · go_wp2_with fail
      go_ret
      exact ⟨_, o, rfl, hown, HU.out, by have := HL.out; omega, hb⟩
end Go.Proofs.Ythemlhkdgaeogaa
