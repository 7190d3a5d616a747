/-
  How marks are told to a walk, and the walk of Marks, which makes them out of numbers. Nothing that was there is changed.
-/
import Derived.Test.YtpjpckhmjonehaaPick
import Derived.Handy
import Derived.Test.YtpjpckhmjonehaaCRow
import Derived.Test.YtpjpckhmjonehaaMix
namespace Go.Proofs.Ytpjpckhmjonehaa
open Go.RowKit
set_option linter.unusedVariables false

structure Mk where
  at_ : Nat
  right : Bool
def mkc (m : Mk) : List Value := [.int .i64 (m.at_ : Int), .bool m.right]
theorem mkc_len (m : Mk) : (mkc m).length = 2 := rfl
theorem mkc_one (m : Mk) : ∀ u ∈ mkc m, u.oneCell' = true := by intro u hu; simp [mkc] at hu; rcases hu with rfl | rfl <;> rfl
theorem mark_info : (Try.prog.info? 27).map (fun i => (i.zero, i.size, i.bytes)) = some (some (.agg #[.int .i64 0, .bool false]), 2, 16) := by kernel_rfl

def MarksOwn (n : Nat) (w : World) (e : Ending) (w' : World) : Prop := ∃ v ms, e = .returned v ∧ w'.ownsRow w.heap.size 27 2 v ms.length (cellsOf mkc ms) ∧ (∀ m ∈ ms, m.at_ ≤ n) ∧ ms.length ≤ 40 ∧ Below w.heap.size w w'
def MarksOwnK (k n : Nat) (w : World) (e : Ending) (w' : World) : Prop := ∃ v ms, e = .returned v ∧ w'.ownsRow w.heap.size 27 2 v ms.length (cellsOf mkc ms) ∧ (∀ m ∈ ms, m.at_ ≤ n) ∧ ms.length ≤ k ∧ Below w.heap.size w w'
def MarksPost (n : Nat) (w : World) (e : Ending) (w' : World) : Prop := ∃ v ms, e = .returned v ∧ CRow 2 mkc w' v ms ∧ (∀ m ∈ ms, m.at_ ≤ n) ∧ ms.length ≤ 40 ∧ Below w.heap.size w w'

set_option maxRecDepth 100000 in
set_option maxHeartbeats 2000000 in
theorem marks_ownk (v : Value) (xs : List Int) (k n : Nat) (w : World) (hr : Row .i64 w v xs) (hk : k ≤ 40) (hn : n ≤ 100000) :
    Calls Try.prog 5 #[v, .int .i64 k, .int .i64 n] w (MarksOwnK k n w) := by
  have hbd := hr.bd
  obtain ⟨A, c, rfl, hl, hc, hw, hrd⟩ := hr
  unfold maxLen at hc
  go_enter Try.func5, Try.ntmps5
  go_wp2_with fail
  go_loopw [7, 8] (fun o i wr => ∃ (j : Nat) (ms : List Mk), j ≤ xs.length ∧ j ≤ k ∧ i = .int .i64 j ∧ ms.length = j ∧ (∀ m ∈ ms, m.at_ ≤ n) ∧ wr.ownsRow w.heap.size 27 2 o j (cellsOf mkc ms) ∧ Below w.heap.size w wr) (fun _ i _ => xs.length - (intOf i).toNat)
  case atStart => exact ⟨0, [], Nat.zero_le _, Nat.zero_le _, rfl, rfl, by simp, World.ownsRow_nil _ _ _ _, Below.refl _ _⟩
  case round =>
    obtain ⟨j, ms, hj, hjk, rfl, hml, hms, hown, hbel⟩ := hrel
    by_cases hlt : j < xs.length
    · by_cases hlt2 : j < k
      · obtain ⟨b0, o0, rfl, hb0, hcell⟩ := Row.at_ hrd hlt
        have hb := hbd j
        generalize hg : xs.getD j 0 = x at *
        have hcell' : wr.cell? ⟨b0, o0 + j, none⟩ = some (.int .i64 x) := (hbel.cell (p := ⟨b0, o0 + j, none⟩) hb0).trans hcell
        have hx1 : -9223372036854775808 ≤ x.tdiv 1000 ∧ x.tdiv 1000 ≤ 9223372036854775807 := tdiv_bd x 1000 (by omega) hb
        have hw1 : IntKind.i64.wrap (x.tdiv 1000) = x.tdiv 1000 := IntWalk.i64_in _ (by omega)
        have hw2 : IntKind.i64.wrap ((n : Int) + 1) = (n : Int) + 1 := IntWalk.i64_in _ (by omega)
        have P1 := Lib.hid (fun W => picked_any x ((n : Int) + 1) W hb (by omega) (by omega))
        have P2 := Lib.hid (fun W => picked_any (x.tdiv 1000) 2 W hx1 (by omega) (by omega))
        go_wp2_with fail
        have hq1 := Int.emod_nonneg x (show (n : Int) + 1 ≠ 0 by omega)
        have hq2 := Int.emod_lt_of_pos x (show 0 < (n : Int) + 1 by omega)
        obtain ⟨q, hq⟩ : ∃ q : Nat, x % ((n : Int) + 1) = (q : Int) := ⟨(x % ((n : Int) + 1)).toNat, by omega⟩
        have hqn : q ≤ n := by omega
        rw [hq] at P1
        have HQ := Lib.hid hq
        clear hq hq1 hq2
        obtain ⟨i0, hi, hz0, hz1, hz2⟩ := info_parts mark_info
        refine wp_region_mix 16 1 (fun w' => Below wr.heap.size wr w') (by kernel_rfl) (by kernel_rfl) (fun _ _ h1 h2 => bstep h1 h2) (Below.refl _ _) ?_
        intro ι F hne hF
        have hcF : ∀ i, (F i).cell? ⟨b0, o0 + j, none⟩ = some (.int .i64 x) := fun i => ((hF i).cell (p := ⟨b0, o0 + j, none⟩) (Nat.lt_of_lt_of_le hb0 hbel.size)).trans hcell'
        simp only [List.take_succ_cons, List.take_zero, List.drop_succ_cons, List.drop_zero]
        repeat (refine wpB_step (fun K hK => ?_); go_simp; first | (refine hK _ ?_; clear hK K) | (apply Exists.intro; refine ⟨fun _ => ?_, hK _ ?_⟩; (first | ((with_reducible refine (P1.out _).mono ?_); rintro e w1 ⟨rfl, rfl⟩; exact ⟨rfl, Below.refl _ _⟩) | ((with_reducible refine (P2.out _).mono ?_); rintro e w1 ⟨rfl, rfl⟩; exact ⟨rfl, Below.refl _ _⟩)); clear hK K))
        refine wpB_nil ?_
        intro w2 hw2 hI2
        clear hcF hF
        (refine wpR_step (fun K hK => ?_); go_simp; refine hK _ _ ⟨hI2.alloc hI2.size _, ?_⟩; clear hK K)
        intro w3 hw3 hI3
        refine wpR_nil ?_
        generalize (x.tdiv 1000 % 2 == 1) = bv at *
        have hown3 := own_below ((own_below hown hI2).alloc (.cells #[.int .i64 (q : Int), .bool bv] 27)) hw3
        have hr3 := (Reads.new w2 [.int .i64 (q : Int), .bool bv] 27 2 rfl).below hw3
        have hbel3 := bstep hbel hI3
        clear hown hw2 hI2 hI3 hw3
        go_wp2_with (at_builtin; refine wpList_append_any _ rfl (.tmp 20) (.tmp 36) _ rfl w.heap.size 27 i0 _ 2 16 Try.underlying24 hi hz0 hz1 hz2 rfl (by decide) u7 j (cellsOf mkc ms) rfl hown3 _ (some ⟨w2.heap.size, 0, none⟩) 1 1 [.int .i64 (q : Int), .bool bv] rfl hr3 (by simp [Value.oneCell']) (by unfold maxLen; omega) (by omega) hbel3.size ?_)
        intro v' w4 hown4 hg4 _
        have hbel4 := hbel3.grown hg4 hbel3.size (fun g e => (hown3.lt g e).1)
        clear hown3 hr3 hg4
        go_wp2_with fail
        go_roundw
        case rel =>
          refine ⟨j + 1, ms ++ [⟨q, bv⟩], by omega, by omega, by go_num, by simp [hml], ?_, ?_, hbel4⟩
          · intro m hm
            rcases List.mem_append.1 hm with h | h
            · exact hms m h
            · simp at h; subst h; exact hqn
          · rw [cellsOf_snoc]; exact hown4
        case measure => simp [intOf]; omega
      · go_wp2
        go_ret
        exact ⟨_, ms, rfl, by rw [hml]; exact hown, hms, by omega, hbel⟩
    · go_wp2
      go_ret
      exact ⟨_, ms, rfl, by rw [hml]; exact hown, hms, by omega, hbel⟩
theorem marks_own (v : Value) (xs : List Int) (k n : Nat) (w : World) (hr : Row .i64 w v xs) (hk : k ≤ 40) (hn : n ≤ 100000) :
    Calls Try.prog 5 #[v, .int .i64 k, .int .i64 n] w (MarksOwn n w) :=
  (marks_ownk v xs k n w hr hk hn).mono fun e w' ⟨v', ms, he, ho, h3, h4, h5⟩ => ⟨v', ms, he, ho, h3, Nat.le_trans h4 hk, h5⟩
theorem marks_any (v : Value) (xs : List Int) (k n : Nat) (w : World) (hr : Row .i64 w v xs) (hk : k ≤ 40) (hn : n ≤ 100000) :
    Calls Try.prog 5 #[v, .int .i64 k, .int .i64 n] w (MarksPost n w) :=
  (marks_own v xs k n w hr hk hn).mono fun e w' ⟨v', ms, he, ho, h3⟩ => ⟨v', ms, he, CRow.of_own mkc_len ho, h3⟩
end Go.Proofs.Ytpjpckhmjonehaa
