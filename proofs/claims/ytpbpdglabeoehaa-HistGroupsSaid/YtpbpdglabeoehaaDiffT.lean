/-
  The walks of the statements' helpers: Lines, costOf, sameTexts.
-/
import Derived.Test.YtpbpdglabeoehaaDiff
namespace Go.Proofs.Ytpbpdglabeoehaa
open Go.RowKit
set_option linter.unusedVariables false

theorem string_info : (Try.prog.info? 9).map (fun i => (i.zero, i.size, i.bytes)) = some (some (.string ⟨#[]⟩), 1, 16) := by kernel_rfl

def RetLines (n : Nat) (w : World) (e : Ending) (w' : World) : Prop := ∃ v ss, e = .returned v ∧ SRow w' v ss ∧ ss.length ≤ n ∧ (∀ s ∈ ss, s.size ≤ 600) ∧ Below w.heap.size w w'

set_option maxHeartbeats 1000000 in
theorem lines_any (v : Value) (xs : List Int) (n kinds : Nat) (w : World) (hr : Row .i64 w v xs) (hn2 : n ≤ 100) (hk : 1 ≤ kinds) (hk2 : kinds ≤ 8) :
    Calls Try.prog 23 #[v, .int .i64 n, .int .i64 kinds] w (RetLines n w) := by
  have hbd := hr.bd
  obtain ⟨A, c, rfl, hl, hc, hw, hrd⟩ := hr
  unfold maxLen at hc
  go_enter Try.func23, Try.ntmps23
  go_wp2
  go_loopw [7, 8] (fun o i wr => ∃ (k : Nat) (ss : List ByteArray), k ≤ xs.length ∧ k ≤ n ∧ i = .int .i64 k ∧ wr.ownsRow w.heap.size 9 1 o k (ss.map .string) ∧ ss.length = k ∧ (∀ s ∈ ss, s.size ≤ 600) ∧ Below w.heap.size w wr) (fun _ i _ => xs.length - (intOf i).toNat)
  case atStart => exact ⟨0, [], Nat.zero_le _, Nat.zero_le _, rfl, World.ownsRow_nil _ _ _ _, rfl, by simp, Below.refl _ _⟩
  case round =>
    obtain ⟨k, ss, hkl, hkn, rfl, hown, hsl, hss, hbel⟩ := hrel
    by_cases hlt : k < xs.length
    · by_cases hlt2 : k < n
      · obtain ⟨b0, o0, rfl, hb0, hcell⟩ := Row.at_ hrd hlt
        have hcell2 := hcell
        rw [← hbel.cell (by simpa using hb0)] at hcell
        have hb := hbd k
        generalize hg : xs.getD k 0 = x at *
        clear hg hcell2
        have hp := fun W => picked_any x kinds W hb (by omega) (by omega)
        have hm := Int.emod_nonneg x (show (kinds : Int) ≠ 0 by omega)
        have hm2 := Int.emod_lt_of_pos x (show (0 : Int) < kinds by omega)
        generalize x % (kinds : Int) = y at *
        by_cases h8 : 8 ≤ kinds
        · have e8 : (kinds : Int) = 8 := by omega
          have hp2 := hp
          rw [e8] at hp2 hm2
          clear e8 hp
          have hp := hp2
          clear hp2
          go_wp2_with fail
          refine (hp _).mono ?_
          rintro e w' ⟨rfl, rfl⟩
          go_wp2_with (at_builtin; refine wpList_app1 (W := wr) rfl (.tmp 20) (.tmp 30) _ rfl w.heap.size 9 _ 16 Try.underlying44 string_info rfl _ k _ rfl hown _ rfl rfl rfl (by omega) (by omega) hbel.size ?_)
          intro v' w' hown' hbt _
          have hbel' := hbt _ (Nat.le_refl _) _ hbel
          clear hcell hown hbt
          go_wp2_with fail
          go_roundw
          case rel =>
            refine ⟨k + 1, ss ++ [_], by omega, by omega, by go_num, by simpa using hown', by simp [hsl], fun s hs => ?_, hbel'⟩
            rcases List.mem_append.1 hs with h | h
            · exact hss s h
            · simp only [List.mem_singleton] at h
              subst h
              simp; omega
          case measure => simp [intOf]; omega
        · go_wp2_with fail
          refine (hp _).mono ?_
          rintro e w' ⟨rfl, rfl⟩
          go_wp2_with (at_builtin; refine wpList_app1 (W := wr) rfl (.tmp 20) (.tmp 30) _ rfl w.heap.size 9 _ 16 Try.underlying44 string_info rfl _ k _ rfl hown _ rfl rfl rfl (by omega) (by omega) hbel.size ?_)
          intro v' w' hown' hbt _
          have hbel' := hbt _ (Nat.le_refl _) _ hbel
          clear hcell hown hbt
          go_wp2_with fail
          go_roundw
          case rel =>
            refine ⟨k + 1, ss ++ [_], by omega, by omega, by go_num, by simpa using hown', by simp [hsl], fun s hs => ?_, hbel'⟩
            rcases List.mem_append.1 hs with h | h
            · exact hss s h
            · simp only [List.mem_singleton] at h
              subst h
              simp; omega
          case measure => simp [intOf]; omega
      · go_wp2
        go_ret
        exact ⟨_, ss, rfl, SRow.of_own (by rw [hsl]; exact hown), by omega, hss, hbel⟩
    · go_wp2
      go_ret
      exact ⟨_, ss, rfl, SRow.of_own (by rw [hsl]; exact hown), by omega, hss, hbel⟩
theorem lines_at (z : Int) (n : Nat) (hz : z = n) (v : Value) (xs : List Int) (kinds : Nat) (w : World) (hr : Row .i64 w v xs) (hn2 : n ≤ 100) (hk : 1 ≤ kinds) (hk2 : kinds ≤ 8) :
    Calls Try.prog 23 #[v, .int .i64 z, .int .i64 kinds] w (RetLines n w) := by
  subst hz; exact lines_any v xs n kinds w hr hn2 hk hk2

theorem texts_any (va vb : Value) (a b : List ByteArray) (w : World) (ha : SRow w va a) (hb : SRow w vb b) :
    Calls Try.prog 26 #[va, vb] w fun e w' => e = .returned (.bool (decide (a = b))) ∧ Below w.heap.size w w' := by
  obtain ⟨A0, c0, rfl, hl0, hc0, hr0⟩ := ha
  obtain ⟨A1, c1, rfl, hl1, hc1, hr1⟩ := hb
  unfold maxLen at hc0 hc1
  have hne : a.length ≠ b.length → decide (a = b) = false := by
    intro h
    have : ¬ a = b := fun e => h (by rw [e])
    simp [this]
  go_enter Try.func26, Try.ntmps26
  by_cases hll : a.length = b.length
  · have hlb : ((a.length : Int) != (b.length : Int)) = false := by simp [hll]
    have hll2 := Lib.hid hll
    clear hll hne
    go_wp2
    clear hlb
    go_loopw [5] (fun i wr => ∃ k : Nat, k ≤ a.length ∧ i = .int .i64 k ∧ (∀ j, j < k → a[j]? = b[j]?) ∧ Below w.heap.size w wr) (fun i _ => a.length - (intOf i).toNat)
    case atStart => exact ⟨0, Nat.zero_le _, rfl, fun j h => by omega, Below.refl _ _⟩
    case round =>
      obtain ⟨k, hk, rfl, heq, hbel⟩ := hrel
      by_cases hlt : k < a.length
      · have hlt2 : k < b.length := by have := hll2.out; omega
        obtain ⟨b0, o0, rfl, _, hcell0⟩ := SRow.at_ (hr0.below hbel) hlt
        obtain ⟨b1, o1, rfl, _, hcell1⟩ := SRow.at_ (hr1.below hbel) hlt2
        by_cases hs : a[k] = b[k]
        · have H := Lib.hid heq
          have H2 := Lib.hid (show a[k]? = b[k]? by simp [hlt, hlt2, hs])
          clear heq
          rw [← hs] at hcell1
          generalize a[k] = s at *
          have hq : (s.toList == s.toList) = true := bytes_eq rfl
          go_wp2_with fail
          go_quiet (fail)
          go_wp2_with fail
          go_roundw
          case rel =>
            refine ⟨k + 1, by omega, by go_num, fun j hj => ?_, below_drewN hbel _⟩
            by_cases e : j = k
            · subst e; exact H2.out
            · exact H.out j (by omega)
          case measure => simp [intOf]; omega
        · have H2 := Lib.hid (show decide (a = b) = false by
            have : ¬ a = b := fun e => hs (by subst e; rfl)
            simp [this])
          clear heq
          have hq := bytes_ne hs
          generalize a[k] = s at *
          generalize b[k] = t at *
          go_wp2_with fail
          go_quiet (fail)
          go_wp2_with fail
          go_ret
          exact ⟨by rw [H2.out]; rfl, below_drewN hbel _⟩
      · have H2 := Lib.hid (show decide (a = b) = true by
          have : a = b := List.ext_getElem? fun j => by
            by_cases hj : j < k
            · exact heq j hj
            · have := hll2.out
              rw [List.getElem?_eq_none (by omega), List.getElem?_eq_none (by omega)]
          simp [this])
        clear heq
        go_wp2
        go_ret
        exact ⟨by rw [H2.out]; rfl, hbel⟩
  · have H := Lib.hid (hne hll)
    clear hne
    go_wp2
    go_ret
    exact ⟨by rw [H.out]; rfl, Below.refl _ _⟩

theorem costOf_any (va vb : Value) (a b : List ByteArray) (w : World) (ha : SRow w va a) (hb : SRow w vb b)
    (hla : a.length ≤ 80) (hlb : b.length ≤ 80) (hsa : ∀ s ∈ a, s.size ≤ 600) (hsb : ∀ s ∈ b, s.size ≤ 600) :
    Calls Try.prog 27 #[va, vb] w fun e w' => e = .returned (.int .i64 (Dc.dc a b)) ∧ Below w.heap.size w w' := by
  have hc := fun va vb => cost_any va vb a b
  obtain ⟨i0, hi, hz0, hz1, hz2⟩ := info_parts string_info
  obtain ⟨A0, c0, rfl, hl0, hc0, hr0⟩ := ha
  obtain ⟨A1, c1, rfl, hl1, hc1, hr1⟩ := hb
  go_enter Try.func27, Try.ntmps27
  go_wp2_with (at_builtin; refine wpList_append_any _ rfl (.const (.slice none 0 0)) (.tmp 10) _ rfl w.heap.size 9 i0 _ 1 16 Try.underlying44 hi hz0 hz1 hz2 rfl (by decide) (.slice none 0 0) 0 [] rfl (World.ownsRow_nil _ _ _ _) w.heap.size A0 a.length c0 _ rfl hr0 (by simp [Value.oneCell']) (by unfold maxLen; omega) (by omega) (Nat.le_refl _) ?_)
  intro v1 w1 hown1 hg1 _
  have hb1 : Below w.heap.size w w1 := (Below.refl _ _).grown hg1 (Nat.le_refl _) (by simp [Value.ownBlock])
  have hr1' := (hr1.below hb1).more hb1.size
  clear hr0 hr1 hg1
  go_wp2_with (at_builtin; refine wpList_append_any _ rfl (.const (.slice none 0 0)) (.tmp 12) _ rfl w1.heap.size 9 i0 _ 1 16 Try.underlying44 hi hz0 hz1 hz2 rfl (by decide) (.slice none 0 0) 0 [] rfl (World.ownsRow_nil _ _ _ _) w1.heap.size A1 b.length c1 _ rfl hr1' (by simp [Value.oneCell']) (by unfold maxLen; omega) (by omega) (Nat.le_refl _) ?_)
  intro v2 w2 hown2 hg2 _
  have hb2 : Below w1.heap.size w1 w2 := (Below.refl _ _).grown hg2 (Nat.le_refl _) (by simp [Value.ownBlock])
  have hs1 : SRow w1 v1 a := SRow.of_own (by simpa using hown1)
  have hs2 : SRow w2 v2 b := SRow.of_own (by simpa using hown2)
  have hb12 := bstep hb1 hb2
  have hca := hc v1 v2 w2 (hs1.later hb2) hs2 hla hlb hsa hsb
  clear hown1 hown2 hg2 hr1' hs1 hs2 hb1 hb2 hc
  go_wp2_with fail
  refine hca.mono ?_
  rintro e w3 ⟨rfl, hb3⟩
  have hb13 := bstep hb12 hb3
  clear hb12 hb3 hca
  have hlit := SRow.lit w3 9 [⟨#[97]⟩] (show 1 ≤ maxLen by decide)
  have hnil : ∀ W : World, SRow W (.slice none 0 0) [] := fun W => ⟨none, 0, rfl, Nat.le_refl _, by decide, ⟨by simp, by simp⟩⟩
  have hco := cost_any _ (.slice none 0 0) [⟨#[97]⟩] [] _ hlit (hnil _) (by decide) (by decide) (by intro s hs; simp at hs; subst hs; decide) (by simp)
  clear hlit hnil
  go_wp2_with fail
  refine hco.mono ?_
  rintro e w4 ⟨rfl, hb4⟩
  have e1 : Dc.dc [(⟨#[97]⟩ : ByteArray)] [] = 1 := by rw [Dc.dc_nil_right]; rfl
  rw [e1]
  go_wp2_with fail
  go_ret
  exact ⟨rfl, bstep (hb13.alloc hb13.size _) hb4⟩
end Go.Proofs.Ytpbpdglabeoehaa
