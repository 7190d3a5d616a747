/-
  The walk of spans.Joined.
-/
import Derived.Test.YthemlhkdgaeogaaSpanI
import Derived.Test.YthemlhkdgaeogaaSpanM
import Derived.Deep.QuietTactic
import Derived.StillTailTactics
import Derived.BigQuiet
import Derived.Test.YthemlhkdgaeogaaReg
namespace Go.Proofs.Ythemlhkdgaeogaa
open Go.RowKit Go.Shelf
set_option linter.unusedVariables false
set_option linter.unusedSimpArgs false

theorem jfold_snoc (l : List Sp) (k : Nat) (hk : k < l.length) : (l.take (k + 1)).foldl jstep [] = jstep ((l.take k).foldl jstep []) l[k] := by
  rw [List.take_succ_eq_append_getElem hk, List.foldl_append]; rfl
theorem jfold_small (l : List Sp) (hs : Small l) : ∀ k, k ≤ l.length → Small ((l.take k).foldl jstep []) := by
  intro k
  induction k with
  | zero => intro _ x hx; simp at hx
  | succ k ih =>
    intro hk
    rw [jfold_snoc l k (by omega)]
    have h1 := ih (by omega)
    have h2 := hs l[k] (List.getElem_mem (by omega))
    generalize (l.take k).foldl jstep [] = o at *
    generalize l[k] = s at *
    unfold jstep
    split
    · exact h1
    · rcases List.eq_nil_or_concat o with rfl | ⟨o', p, rfl⟩
      · intro x hx; simp at hx; subst hx; exact h2
      · simp only [List.concat_eq_append, List.getLast?_append, List.getLast?_singleton, Option.some_or, List.dropLast_concat] at *
        have h3 := h1 p (by simp)
        split
        · intro x hx
          simp only [List.mem_append, List.mem_singleton] at hx
          rcases hx with hx | rfl
          · exact h1 x (by simp [hx])
          · show p.lo ≤ 100000 ∧ max p.hi s.hi ≤ 100000; omega
        · intro x hx
          rcases List.mem_append.1 hx with hx | hx
          · exact h1 x hx
          · rw [List.mem_singleton] at hx; subst hx; exact h2
set_option maxRecDepth 100000 in
set_option maxHeartbeats 4000000 in
theorem joined_any (v : Value) (l : List Sp) (w : World) (h : CRow 2 spc w v l) (hl : l.length ≤ 1000) (hsm : Small l) :
    Calls Try.prog 55 #[v] w (SpansPost (joined l) w) := by
  obtain ⟨A, c, rfl, hc1, hc2, hrd⟩ := h
  unfold maxLen at hc2
  have HRD := Lib.hid hrd
  have HSM := Lib.hid hsm
  unfold Small at HSM
  have HJS := Lib.hid (jfold_small l hsm)
  unfold Small at HJS
  have HJL := Lib.hid (fun k => jfold_len (l.take k) [])
  clear hrd hsm
  go_enter Try.func55, Try.ntmps55
  go_wp2_with fail
  go_loopw [3, 5, 6, 9] (fun vo _ _ vi wr => ∃ (k : Nat) (o : List Sp), k ≤ l.length ∧ vi = .int .i64 k ∧ Hid (o = (l.take k).foldl jstep []) ∧ wr.ownsRow w.heap.size 73 2 vo o.length (cellsOf spc o) ∧ Below w.heap.size w wr) (fun _ _ _ vi _ => l.length - (intOf vi).toNat)
  case atStart => exact ⟨0, [], Nat.zero_le _, rfl, Lib.hid rfl, World.ownsRow_nil _ _ _ _, Below.refl _ _⟩
  case round =>
    obtain ⟨k, o, hk, rfl, HO, hown, hb⟩ := hrel
    have hbs := hb.size
    have hol : o.length ≤ l.length := by
      have := HJL.out k
      rw [← HO.out, List.length_take] at this
      simp at this; omega
    by_cases hlt : k < l.length
    · obtain ⟨b, off, rfl, hbb, x0, x1⟩ := CRow.cells2 (HRD.out.below hb) hlt
      have hxs := HSM.out _ (List.getElem_mem hlt)
      have HOS : Hid (∀ x ∈ o, x.lo ≤ 100000 ∧ x.hi ≤ 100000) := Lib.hid (by rw [HO.out]; exact HJS.out k hk)
      have HST : Hid ((l.take (k + 1)).foldl jstep [] = jstep o l[k]) := Lib.hid (by rw [jfold_snoc l k hlt, ← HO.out])
      have BX := Blk.new wr 73 #[.int .i64 (l[k].lo : Int), .int .i64 (l[k].hi : Int)]
      generalize l[k] = s at *
      have HOW := Lib.hid (hown.alloc (.cells #[.int .i64 (s.lo : Int), .int .i64 (s.hi : Int)] 73))
      have HBW := Lib.hid (hb.alloc hbs (.cells #[.int .i64 (s.lo : Int), .int .i64 (s.hi : Int)] 73))
      by_cases he : s.lo = s.hi
      · have hej : jstep o s = o := by unfold jstep; rw [if_pos he]
        have hei : ((s.lo : Int) == (s.hi : Int)) = true := by simp [he]
        have HEJ := Lib.hid hej
        obtain ⟨Ao, co, rfl, ho1, ho2⟩ := own_slice hown
        clear hej he hown hb
        go_wp2_with fail
        go_roundw
        case rel => exact ⟨k + 1, o, by omega, by go_num, Lib.hid (by rw [HST.out, HEJ.out]), HOW.out, HBW.out⟩
        case measure => simp [intOf]; omega
      · have hei : ((s.lo : Int) == (s.hi : Int)) = false := by rw [beq_eq_false_iff_ne]; omega
        rcases List.eq_nil_or_concat o with rfl | ⟨o', p, rfl⟩
        · have hej : jstep [] s = [s] := by unfold jstep; rw [if_neg he]; rfl
          have HEJ := Lib.hid hej
          simp only [List.length_nil] at hown HOW hol
          obtain ⟨Ao, co, rfl, ho1, ho2⟩ := own_slice hown
          clear hej he hown hb HSM HJS HJL HOS
          go_wp2_with fail
          refine wp_region_below (by kernel_rfl) (by kernel_rfl) ?_
          intro ι F hne hF hG
          repeat go_big_quiet_step (fail)
          refine wpQuiet_nil ?_
          intro _ hw'
          obtain ⟨nr, rfl⟩ := hw'
          have hbF := hF nr
          generalize F nr = wz at *
          have BZ := BX.below hbF BX.lt
          have z0 : wz.cell? ⟨wr.heap.size, 0, none⟩ = some (.int .i64 (s.lo : Int)) := BZ.cell 0
          have z1 : wz.cell? ⟨wr.heap.size, 1, none⟩ = some (.int .i64 (s.hi : Int)) := BZ.cell 1
          have HOZ := Lib.hid (own_below HOW.out hbF)
          have HBZ := Lib.hid (bstep HBW.out hbF)
          clear hF hG BZ
          go_wp2_with (at_builtin; go_loud (refine wpList_appN rfl (.tmp 15) (.tmp 17) _ rfl w.heap.size 73 _ 2 16 Try.underlying26 span_info rfl (by decide) (.slice Ao 0 co) 0 _ rfl HOZ.out (spc s) rfl _ rfl (by simp) rfl (spc_one s) (by omega) (by omega) HBZ.out.size ?_; intro v8 w8 ho8 hB8 hg8; have HO8 := Lib.hid ho8; have HB8 := Lib.hid (hB8 _ (Nat.le_refl _) _ HBZ.out); clear ho8 hB8 hg8))
          go_roundw
          case rel =>
            refine ⟨k + 1, [s], by omega, by go_num, Lib.hid (by rw [HST.out, HEJ.out]), ?_, HB8.out⟩
            have h9 := HO8.out
            rw [Nat.zero_add] at h9
            exact h9
          case measure => simp [intOf]; omega
        · obtain ⟨m, hm⟩ : ∃ m, o'.length = m := ⟨_, rfl⟩
          have hlen : (o'.concat p).length = m + 1 := by simp [hm]
          have hgl : (o'.concat p).getLast? = some p := by simp
          have hdl : (o'.concat p).dropLast = o' := by simp
          have hps := HOS.out p (by simp)
          have hx := hown
          rw [hlen] at hown HOW hol
          obtain ⟨g, co, hv, hg, hgl2⟩ := hown.form (by omega)
          subst hv
          have hat : (o'.concat p)[m]? = some p := by rw [List.concat_eq_append, List.getElem?_append_right (by omega), hm, Nat.sub_self]; rfl
          have hml : m < (o'.concat p).length := by omega
          have hget : (o'.concat p)[m] = p := by rw [List.getElem?_eq_getElem hml] at hat; injection hat
          have c1 := hown.cells (g := g) rfl (m * 2 + 1) _ ((cellsOf_at spc_len _ m hml 1 (by decide)).trans rfl)
          rw [add_head, hget] at c1
          have d1 : (wr.alloc (.cells #[.int .i64 (s.lo : Int), .int .i64 (s.hi : Int)] 73)).cell? ⟨g, m * 2 + 1, none⟩ = some (.int .i64 (p.hi : Int)) := (World.cell?_alloc_lt _ _ _ hgl2).trans c1
          have hglW : g < (wr.alloc (.cells #[.int .i64 (s.lo : Int), .int .i64 (s.hi : Int)] 73)).heap.size := by simp; omega
          have hm0 : (0 : Int) ≤ (m : Int) := by omega
          by_cases hh : s.lo ≤ p.hi
          · have hej : jstep (o'.concat p) s = o' ++ [⟨p.lo, max p.hi s.hi⟩] := by
              unfold jstep; rw [if_neg he, hgl]; simp only [hdl]; rw [if_pos hh]
            have hhi : (s.lo : Int) ≤ (p.hi : Int) := by omega
            have HEJ := Lib.hid hej
            have HSET : Hid ((cellsOf spc (o'.concat p)).set (m * 2 + 1) (.int .i64 ((max p.hi s.hi : Nat) : Int)) = cellsOf spc (o' ++ [⟨p.lo, max p.hi s.hi⟩])) := Lib.hid (by
              rw [cellsOf_set (cl := spc) (sz := 2) spc_len (o'.concat p) m hml 1 (by omega) (.int .i64 ((max p.hi s.hi : Nat) : Int)) ⟨p.lo, max p.hi s.hi⟩ (by rw [hget]; rfl)]
              congr 1
              rw [List.concat_eq_append, List.set_append_right _ _ (by omega), hm, Nat.sub_self]; rfl)
            have hmx : max (p.hi : Int) (s.hi : Int) = ((max p.hi s.hi : Nat) : Int) := by omega
            have HL2 : Hid ((o' ++ [(⟨p.lo, max p.hi s.hi⟩ : Sp)]).length = m + 1) := Lib.hid (by simp [hm])
            generalize hmq : max p.hi s.hi = mq at *
            generalize cellsOf spc (o'.concat p) = cc at *
            clear hej he hown hb HSM HJS HJL HOS hx hlen hgl hdl hat hget c1 hh hm hml HO hmq
            go_wp2_with fail
            refine wp_region_below (by kernel_rfl) (by kernel_rfl) ?_
            intro ι F hne hF hG
            have e1 : ∀ j, (F j).cell? ⟨g, m * 2 + 1, none⟩ = some (.int .i64 (p.hi : Int)) := fun j => ((hF j).cell (p := ⟨g, m * 2 + 1, none⟩) hglW).trans d1
            have e2 : ∀ j, (F j).cell? ⟨wr.heap.size, 0, none⟩ = some (.int .i64 (s.lo : Int)) := fun j => (BX.below (hF j) BX.lt).cell 0
            repeat go_big_quiet_step (fail)
            refine wpQuiet_nil ?_
            intro _ hw'
            obtain ⟨nr, rfl⟩ := hw'
            have hbF := hF nr
            generalize F nr = wz at *
            have BZ := BX.below hbF BX.lt
            have z0 : wz.cell? ⟨wr.heap.size, 0, none⟩ = some (.int .i64 (s.lo : Int)) := BZ.cell 0
            have z1 : wz.cell? ⟨wr.heap.size, 1, none⟩ = some (.int .i64 (s.hi : Int)) := BZ.cell 1
            have HOZ := Lib.hid (own_below HOW.out hbF)
            have HBZ := Lib.hid (bstep HBW.out hbF)
            clear e1 e2 hF hG
            have f1 : wz.cell? ⟨g, m * 2 + 1, none⟩ = some (.int .i64 (p.hi : Int)) := (hbF.cell (p := ⟨g, m * 2 + 1, none⟩) hglW).trans d1
            go_wp2_with fail
            replace z1 : wz.drew.cell? ⟨wr.heap.size, 1, none⟩ = some (.int .i64 (s.hi : Int)) := z1
            replace f1 : wz.drew.cell? ⟨g, m * 2 + 1, none⟩ = some (.int .i64 (p.hi : Int)) := f1
            have f2 : wz.drew.frozen? ⟨g, m * 2 + 1, none⟩ = false := HOZ.out.frozenAt (m * 2 + 1)
            replace HOZ := Lib.hid (World.ownsRow.drew HOZ.out)
            replace HBZ := Lib.hid (HBZ.out.drew)
            have hmm1 : (m : Int) < (m : Int) + 1 := by omega
            have hwm : IntKind.i64.wrap (m : Int) = (m : Int) := IntWalk.i64_in _ (by omega)
            refine wp_region_still_tail 14 (by kernel_rfl) (by kernel_rfl) ?_
            change wpStill _ _ wz.drew _ _ _
            simp only [List.take_succ_cons, List.take_zero, List.drop_succ_cons, List.drop_zero]
            generalize hW : wz.drew = W1 at *
            iterate 14 still_step
            refine wpStill_nil ?_
            change wpList _ _ _ _ _ wz.drew
            rw [hW]
            clear hW z0
            go_wp2_with fail
            go_roundw
            case rel =>
              refine ⟨k + 1, o' ++ [⟨p.lo, mq⟩], by omega, by go_num, Lib.hid (by rw [HST.out, HEJ.out]), ?_, HBZ.out.setCell (p := ⟨g, m * 2 + 1, none⟩) hg _⟩
              have h9 := (HOZ.out.stored (m * 2 + 1) (.int .i64 (mq : Int))).1
              rw [HSET.out] at h9
              rw [HL2.out]
              exact h9
            case measure => simp [intOf]; omega
          · have hej : jstep (o'.concat p) s = o' ++ [p] ++ [s] := by
              unfold jstep; rw [if_neg he, hgl]; simp only []; rw [if_neg hh, List.concat_eq_append]
            have hhi : ¬ (s.lo : Int) ≤ (p.hi : Int) := by omega
            have HEJ := Lib.hid hej
            have HCC : Hid (cellsOf spc (o' ++ [p] ++ [s]) = cellsOf spc (o'.concat p) ++ spc s) := Lib.hid (by rw [cellsOf_snoc, List.concat_eq_append])
            have HL2 : Hid ((o' ++ [p] ++ [s]).length = m + 2) := Lib.hid (by simp [hm])
            generalize cellsOf spc (o'.concat p) = cc at *
            clear hej he hown hb HSM HJS HJL HOS hx hlen hgl hdl hat hget c1 hh hm hml HO
            go_wp2_with fail
            refine wp_region_below (by kernel_rfl) (by kernel_rfl) ?_
            intro ι F hne hF hG
            have e1 : ∀ j, (F j).cell? ⟨g, m * 2 + 1, none⟩ = some (.int .i64 (p.hi : Int)) := fun j => ((hF j).cell (p := ⟨g, m * 2 + 1, none⟩) hglW).trans d1
            have e2 : ∀ j, (F j).cell? ⟨wr.heap.size, 0, none⟩ = some (.int .i64 (s.lo : Int)) := fun j => (BX.below (hF j) BX.lt).cell 0
            repeat go_big_quiet_step (fail)
            refine wpQuiet_nil ?_
            intro _ hw'
            obtain ⟨nr, rfl⟩ := hw'
            have hbF := hF nr
            generalize F nr = wz at *
            have BZ := BX.below hbF BX.lt
            have z0 : wz.cell? ⟨wr.heap.size, 0, none⟩ = some (.int .i64 (s.lo : Int)) := BZ.cell 0
            have z1 : wz.cell? ⟨wr.heap.size, 1, none⟩ = some (.int .i64 (s.hi : Int)) := BZ.cell 1
            have HOZ := Lib.hid (own_below HOW.out hbF)
            have HBZ := Lib.hid (bstep HBW.out hbF)
            clear e1 e2 hF hG BZ
            obtain ⟨Ao, hAo⟩ : ∃ A : Option Addr, A = some ⟨g, 0, none⟩ := ⟨_, rfl⟩
            rw [← hAo] at HOZ ⊢
            clear hAo
            go_wp2_with (at_builtin; go_loud (refine wpList_appN rfl (.tmp 15) (.tmp 17) _ rfl w.heap.size 73 _ 2 16 Try.underlying26 span_info rfl (by decide) (.slice Ao (m + 1) co) (m + 1) _ rfl HOZ.out (spc s) rfl _ rfl (by simp) rfl (spc_one s) (by omega) (by omega) HBZ.out.size ?_; intro v8 w8 ho8 hB8 hg8; have HO8 := Lib.hid ho8; have HB8 := Lib.hid (hB8 _ (Nat.le_refl _) _ HBZ.out); clear ho8 hB8 hg8))
            go_roundw
            case rel =>
              refine ⟨k + 1, o' ++ [p] ++ [s], by omega, by go_num, Lib.hid (by rw [HST.out, HEJ.out]), ?_, HB8.out⟩
              rw [HCC.out, HL2.out]
              exact HO8.out
            case measure => simp [intOf]; omega
    · obtain rfl : k = l.length := by omega
      have HJ : Hid (o = joined l) := Lib.hid (by rw [HO.out, List.take_length]; rfl)
      have HOW := Lib.hid hown
      have HB := Lib.hid hb
      obtain ⟨Ao, co, rfl, ho1, ho2⟩ := own_slice hown
      clear hown hb
      go_wp2_with fail
      go_ret
      exact ⟨_, rfl, by rw [← HJ.out]; exact HOW.out, HB.out⟩
end Go.Proofs.Ythemlhkdgaeogaa
