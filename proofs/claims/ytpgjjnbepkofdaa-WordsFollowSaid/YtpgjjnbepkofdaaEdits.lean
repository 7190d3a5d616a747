/-
  The walk of Edits. Nothing that was there is changed.
-/
import Derived.Test.YtpgjjnbepkofdaaRunE
namespace Go.Proofs.Ytpgjjnbepkofdaa
open Go.RowKit
set_option linter.unusedVariables false

set_option maxRecDepth 100000 in
set_option maxHeartbeats 2000000 in
theorem edits_own (v : Value) (cs : List Chg) (k n : Nat) (w : World) (h : Chgs w v cs) (hk : k ≤ 1000) (hn : n ≤ 10000) :
    Calls Try.prog 21 #[v, .int .i64 k, .int .i64 n] w (EditsOwn k n w) := by
  obtain ⟨A, c, rfl, hl, hc, hr⟩ := h.plain
  unfold maxLen at hc
  go_enter Try.func21, Try.ntmps21
  go_wp2
  go_loopw [2, 7, 8] (fun sz o i wr => ∃ (j : Nat) (es : List Ed), j ≤ cs.length ∧ j ≤ k ∧ i = .int .i64 j ∧ sz = .int .i64 (sized n es) ∧ es.length = j ∧ vld n es ∧ wr.ownsRow w.heap.size 49 3 o es.length (edCells es) ∧ Below w.heap.size w wr) (fun _ _ i _ => cs.length - (intOf i).toNat)
  case atStart => exact ⟨0, [], Nat.zero_le _, Nat.zero_le _, rfl, rfl, rfl, trivial, World.ownsRow_nil _ _ _ _, Below.refl _ _⟩
  case round =>
    obtain ⟨j, es, hj, hjk, rfl, rfl, hes, hv, hown, hbel⟩ := hrel
    have hsz := sized_le es n hv
    rw [hes] at hsz
    by_cases hlt : j < cs.length
    · by_cases hlt2 : j < k
      · obtain ⟨b0, o0, rfl, hab, hcell⟩ := hr (by omega)
        obtain ⟨u0, u1, u2, c0, c1, c2, hx⟩ := hcell j cs[j] (List.getElem?_eq_getElem hlt)
        clear hr hcell
        replace hx := hx.later hbel
        rw [← hbel.cell (p := ⟨b0, _, none⟩) hab] at c0 c1 c2
        generalize cs[j] = x at *
        generalize hm : sized n es = m at *
        have HM := Lib.hid hm
        clear hm
        go_wp2_with fail
        refine (editOf_any x u0 u1 u2 m _ hx (by omega)).mono ?_
        rintro e w1 ⟨d, rfl, hd1, hd2, hd3, hb1⟩
        have hown1 := own_below hown hb1
        have hbel1 := bstep hbel hb1
        have hlo : u7.ownBlock ≠ some w1.heap.size := by
          intro e; have := (hown1.lt _ e).2; omega
        clear hown c0 c1 c2
        go_wp2_with (at_builtin; refine wpList_appN rfl (.tmp 27) (.tmp 29) _ rfl w.heap.size 49 _ 3 32 Try.underlying44 edit_info rfl (by decide) _ _ _ rfl (hown1.alloc _) [.int .i64 d.p, .int .i64 d.c, .string d.put] rfl _ rfl (by simp) rfl (by simp [Value.oneCell']) (by omega) (by omega) (Nat.le_trans hbel1.size (by simp)) ?_)
        intro v' w2 hown2 hbel2 hgr
        replace hbel2 := hbel2 _ (Nat.le_refl _) _ (hbel1.alloc hbel1.size _)
        have l1 : w2.cell? ⟨w1.heap.size, 1, none⟩ = some (.int .i64 d.c) := hgr.cell (by simp [go_sem]) (Ne.symm hlo)
        have l2 : w2.cell? ⟨w1.heap.size, 2, none⟩ = some (.string d.put) := hgr.cell (by simp [go_sem]) (Ne.symm hlo)
        clear hgr
        go_wp2_with fail
        go_roundw
        case rel =>
          refine ⟨j + 1, es ++ [d], by omega, by omega, by go_num, ?_, by simp [hes], (vld_snoc es d n).2 ⟨hv, by rw [HM.out]; exact hd1, hd2, hd3⟩, ?_, hbel2⟩
          · rw [sized_snoc, HM.out]; congr 1; omega
          · rw [edCells_snoc, List.length_append, hes]; exact hown2
        case measure => simp [intOf]; omega
      · go_wp2
        go_ret
        exact ⟨_, es, rfl, hown, hv, by omega, hbel⟩
    · go_wp2
      go_ret
      exact ⟨_, es, rfl, hown, hv, by omega, hbel⟩

theorem edits_any (v : Value) (cs : List Chg) (k n : Nat) (w : World) (h : Chgs w v cs) (hk : k ≤ 1000) (hn : n ≤ 10000) :
    Calls Try.prog 21 #[v, .int .i64 k, .int .i64 n] w (EditsPost k n w) :=
  (edits_own v cs k n w h hk hn).mono fun e w' ⟨v', es, he, ho, h3⟩ => ⟨v', es, he, EdRow.of_own ho, h3⟩

end Go.Proofs.Ytpgjjnbepkofdaa
