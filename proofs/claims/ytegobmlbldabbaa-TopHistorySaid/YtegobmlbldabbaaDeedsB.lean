/-
  The walk of the statements' helper Deeds: some deeds, each of which is one of the four kinds, with small edits.
-/
import Derived.Test.YtegobmlbldabbaaHistY
import Derived.Test.YtegobmlbldabbaaTurn
namespace Go.Proofs.Ytegobmlbldabbaa
open Go.RowKit
set_option linter.unusedVariables false

def dSm (n : Nat) : Dd → Prop
  | .do_ e => e.p ≤ n ∧ e.c ≤ n ∧ e.put.size ≤ 8
  | _ => True
def DeedsBPost (k n : Nat) (w : World) (e : Ending) (w' : World) : Prop :=
  ∃ v ds, e = .returned v ∧ w'.ownsRow w.heap.size 36 4 v ds.length (cellsOf ddc ds) ∧ ds.length ≤ k ∧ (∀ d ∈ ds, dSm n d) ∧ Below w.heap.size w w'
theorem dSm_snoc {n : Nat} {ds : List Dd} {d : Dd} (h : ∀ d ∈ ds, dSm n d) (hd : dSm n d) : ∀ x ∈ ds ++ [d], dSm n x := by
  intro x hx
  rcases List.mem_append.1 hx with hx | hx
  · exact h x hx
  · simp at hx; subst hx; exact hd
set_option maxRecDepth 100000 in
set_option maxHeartbeats 4000000 in
theorem deedsB_any (v : Value) (ts : List Trn) (k n : Nat) (w : World) (h : Turns w v ts) (hk : k ≤ 1000) (hn : n ≤ 10000) :
    Calls Try.prog 42 #[v, .int .i64 k, .int .i64 n] w (DeedsBPost k n w) := by
  obtain ⟨A, c, rfl, hl, hc, hr⟩ := h
  unfold maxLen at hc
  go_enter Try.func42, Try.ntmps42
  go_wp2
  go_loopw [7, 8] (fun o i wr => ∃ (j : Nat) (ds : List Dd), j ≤ ts.length ∧ j ≤ k ∧ i = .int .i64 j ∧ ds.length = j ∧ (∀ d ∈ ds, dSm n d) ∧ wr.ownsRow w.heap.size 36 4 o j (cellsOf ddc ds) ∧ Below w.heap.size w wr) (fun _ i _ => ts.length - (intOf i).toNat)
  case atStart => exact ⟨0, [], Nat.zero_le _, Nat.zero_le _, rfl, rfl, by simp, World.ownsRow_nil _ _ _ _, Below.refl _ _⟩
  case round =>
    obtain ⟨j, ds, hj, hjk, rfl, hds, hok, hown, hbel⟩ := hrel
    by_cases hlt : j < ts.length
    · by_cases hlt2 : j < k
      · obtain ⟨b0, o0, rfl, hab, hcell⟩ := hr (by omega)
        obtain ⟨u0, u1, u2, u3, c0, c1, c2, c3, hx⟩ := hcell j ts[j] (List.getElem?_eq_getElem hlt)
        clear hr hcell
        replace hx := hx.later hbel
        have hab' := Nat.lt_of_lt_of_le hab hbel.size
        rw [← hbel.cell (p := ⟨b0, _, none⟩) hab] at c0 c1 c2 c3
        generalize ts[j] = x at *
        obtain ⟨rfl, hx, hkb⟩ := hx
        obtain ⟨q, hqe⟩ : ∃ q : Nat, x.k % 8 = (q : Int) := ⟨(x.k % 8).toNat, by omega⟩
        have hq8 : q < 8 := by omega
        have HP : Hid (∀ W : World, Calls Try.prog 18 #[.int .i64 x.k, .int .i64 8] W fun e w' => e = .returned (.int .i64 (q : Int)) ∧ W = w') := by
          refine Lib.hid fun W => ?_
          have := picked_any x.k 8 W hkb (by omega) (by omega); rw [hqe] at this; exact this
        clear hqe hkb
        generalize x.k = xk at *
        obtain ⟨r0, r1, r2, r3, r4⟩ := hx
        have hx : Chg1 wr u1 u2 u3 x.chg := ⟨r0, r1, r2, r3, r4⟩
        subst r0 r1
        obtain ⟨A3, c3', rfl, _⟩ := r2
        have HX := Lib.hid hx
        clear hx
        go_wp2_with fail
        refine (editOf_any x.chg _ _ _ n _ HX.out (by omega)).mono ?_
        rintro e w1 ⟨d, rfl, hd1, hd2, hd3, hb1⟩
        have hown1 := own_below hown hb1
        have hbel1 := bstep hbel hb1
        have c01 : w1.cell? ⟨b0, o0 + j * 4, none⟩ = some (.int .i64 xk) := (hb1.cell (p := ⟨b0, o0 + j * 4, none⟩) hab').trans c0
        have hab1 := Nat.lt_of_lt_of_le hab' hb1.size
        clear hown c0 c1 c2 c3
        go_wp2_with fail
        refine (HP.out _).mono ?_
        rintro e w' ⟨rfl, rfl⟩
        rcases Nat.lt_or_ge 4 q with hq4 | hq4
        · have hg : decide ((4 : Int) < (q : Int)) = true := by simp; omega
          obtain rfl | rfl | rfl : q = 5 ∨ q = 6 ∨ q = 7 := by omega
          · go_wp2_with (at_builtin; refine wpList_appN rfl (.tmp 42) (.tmp 44) _ rfl w.heap.size 36 _ 4 40 Try.underlying25 deed_info rfl (by decide) _ _ _ rfl (hown1.alloc _) (ddc .close) rfl _ rfl (by simp) rfl (ddc_one _) (by omega) (by omega) (Nat.le_trans hbel1.size (by simp)) ?_)
            intro v' w2 hown2 hbel2 hgr
            replace hbel2 := hbel2 _ (Nat.le_refl _) _ (hbel1.alloc hbel1.size _)
            clear hgr
            go_wp2_with fail
            go_roundw
            case rel =>
              refine ⟨j + 1, ds ++ [.close], by omega, by omega, by go_num, by simp [hds], dSm_snoc hok (show dSm n .close from trivial), ?_, hbel2⟩
              rw [cellsOf_snoc]; exact hown2
            case measure => simp [intOf]; omega
          · go_wp2_with (at_builtin; refine wpList_appN rfl (.tmp 42) (.tmp 44) _ rfl w.heap.size 36 _ 4 40 Try.underlying25 deed_info rfl (by decide) _ _ _ rfl (hown1.alloc _) (ddc .undo) rfl _ rfl (by simp) rfl (ddc_one _) (by omega) (by omega) (Nat.le_trans hbel1.size (by simp)) ?_)
            intro v' w2 hown2 hbel2 hgr
            replace hbel2 := hbel2 _ (Nat.le_refl _) _ (hbel1.alloc hbel1.size _)
            clear hgr
            go_wp2_with fail
            go_roundw
            case rel =>
              refine ⟨j + 1, ds ++ [.undo], by omega, by omega, by go_num, by simp [hds], dSm_snoc hok (show dSm n .undo from trivial), ?_, hbel2⟩
              rw [cellsOf_snoc]; exact hown2
            case measure => simp [intOf]; omega
          · go_wp2_with (at_builtin; refine wpList_appN rfl (.tmp 42) (.tmp 44) _ rfl w.heap.size 36 _ 4 40 Try.underlying25 deed_info rfl (by decide) _ _ _ rfl (hown1.alloc _) (ddc .redo) rfl _ rfl (by simp) rfl (ddc_one _) (by omega) (by omega) (Nat.le_trans hbel1.size (by simp)) ?_)
            intro v' w2 hown2 hbel2 hgr
            replace hbel2 := hbel2 _ (Nat.le_refl _) _ (hbel1.alloc hbel1.size _)
            clear hgr
            go_wp2_with fail
            go_roundw
            case rel =>
              refine ⟨j + 1, ds ++ [.redo], by omega, by omega, by go_num, by simp [hds], dSm_snoc hok (show dSm n .redo from trivial), ?_, hbel2⟩
              rw [cellsOf_snoc]; exact hown2
            case measure => simp [intOf]; omega
        · have hg : decide ((4 : Int) < (q : Int)) = false := by simp; omega
          go_wp2_with (at_builtin; refine wpList_appN rfl (.tmp 42) (.tmp 44) _ rfl w.heap.size 36 _ 4 40 Try.underlying25 deed_info rfl (by decide) _ _ _ rfl (hown1.alloc _) (ddc (.do_ d)) rfl _ rfl (by simp) rfl (ddc_one _) (by omega) (by omega) (Nat.le_trans hbel1.size (by simp)) ?_)
          intro v' w2 hown2 hbel2 hgr
          replace hbel2 := hbel2 _ (Nat.le_refl _) _ (hbel1.alloc hbel1.size _)
          clear hgr
          go_wp2_with fail
          go_roundw
          case rel =>
            refine ⟨j + 1, ds ++ [(.do_ d)], by omega, by omega, by go_num, by simp [hds], dSm_snoc hok (show dSm n (.do_ d) from ⟨by omega, by omega, by omega⟩), ?_, hbel2⟩
            rw [cellsOf_snoc]; exact hown2
          case measure => simp [intOf]; omega
      · go_wp2
        go_ret
        exact ⟨_, ds, rfl, by rw [hds]; exact hown, by omega, hok, hbel⟩
    · go_wp2
      go_ret
      exact ⟨_, ds, rfl, by rw [hds]; exact hown, by omega, hok, hbel⟩
end Go.Proofs.Ytegobmlbldabbaa
