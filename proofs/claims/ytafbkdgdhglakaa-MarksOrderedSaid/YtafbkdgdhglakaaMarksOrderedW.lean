/-
  The walk of the law MarksOrdered: whatever its input, it returns true and changes nothing that was there.
-/
import Derived.Test.YtafbkdgdhglakaaMovedM
import Derived.Test.YtafbkdgdhglakaaInv
import Derived.Deep.DeepCutAuto
namespace Go.Proofs.Ytafbkdgdhglakaa
open Go.RowKit
set_option linter.unusedVariables false

theorem mv_order (p c s i k : Nat) (ri rk : Bool) (h : i ≤ k) (hr : ri = false ∨ rk = true) : mv p c s i ri ≤ mv p c s k rk := by
  unfold mv
  rcases hr with rfl | rfl <;> simp only [Bool.false_eq_true, if_false, if_true]
  · repeat' split
    all_goals omega
  · repeat' split
    all_goals omega
theorem mvs_order (es : List Ed) : ∀ (a b : Mk), a.at_ ≤ b.at_ → (a.right = false ∨ b.right = true) → (mvs es a).at_ ≤ (mvs es b).at_ := by
  induction es with
  | nil => intro a b h _; exact h
  | cons e es ih => intro a b h hr; exact ih (mv1 e a) (mv1 e b) (mv_order _ _ _ _ _ _ _ h hr) hr

set_option maxRecDepth 100000 in
set_option maxHeartbeats 4000000 in
theorem marksOrdered_walk (w : World) (v0 : Value) (l : List Int) (h0 : Row .i64 w v0 l) (size : Int) (hsize : -9223372036854775808 ≤ size ∧ size ≤ 9223372036854775807) (v1 : Value) (cs : List Chg) (h1 : Chgs w v1 cs) :
    Calls Try.prog 9 #[v0, .int .i64 size, v1] w fun e w' => e = .returned (.bool true) ∧ Below w.heap.size w w' := by
  have hp := fun W => picked_any size 100 W hsize (by omega) (by omega)
  have hm := Int.emod_nonneg size (show (100 : Int) ≠ 0 by omega)
  have hm2 := Int.emod_lt_of_pos size (show (0 : Int) < 100 by omega)
  generalize size % 100 = y at *
  obtain ⟨n, rfl⟩ : ∃ n : Nat, y = (n : Int) := ⟨y.toNat, by omega⟩
  have HP := Lib.hid hp
  clear hp hm
  go_enter Try.func9, Try.ntmps9
  go_wp2_with fail
  refine (HP.out _).mono ?_
  rintro e w' ⟨rfl, rfl⟩
  go_wp2_with fail
  refine (marks_any v0 l 20 n _ h0 (by omega) (by omega)).mono ?_
  rintro e w1 ⟨vm, ms, rfl, hms, hmn, hml, k1⟩
  replace h1 := h1.later k1
  clear h0
  go_wp2_with fail
  refine (edits_any v1 cs 15 n _ h1 (by omega) (by omega)).mono ?_
  rintro e w2 ⟨ve, es, rfl, he, hv, hl, hb2⟩
  have ho := okr_of_vld es _ hv (by omega)
  have hput := vld_put600 es _ hv
  have k2 := bstep k1 hb2
  replace hms := hms.later hb2
  clear hb2 h1 hv
  obtain ⟨Am, cm, rfl, hlcm, hcm, hrm⟩ := id hms
  unfold maxLen at hcm
  go_wp2_with fail
  refine (movedM_any n _ _ ms es _ hms he (by omega) hmn (by omega) (by omega) hput ho).mono ?_
  rintro e w3 ⟨vx, rfl, hx, hb3⟩
  have hrm3 := (hrm.below hb3).more hb3.size
  have k3 := bstep k2 hb3
  clear hms he hrm hb3 k2
  obtain ⟨Ax, cx, rfl, hlx, hcx, hrx⟩ := hx
  unfold maxLen at hcx
  have hlm : (ms.map (mvs es)).length = ms.length := List.length_map _
  have HLM := Lib.hid hlm
  clear hlm
  go_wp2_with fail
  go_loopw [12] (fun i wr => ∃ t q : Nat, t ≤ ms.length ∧ i = .int .i64 t ∧ wr = w3.drewN q) (fun i _ => ms.length - (intOf i).toNat)
  case atStart => exact ⟨0, 0, Nat.zero_le _, rfl, rfl⟩
  case round =>
    obtain ⟨t, q, ht, rfl, rfl⟩ := hrel
    by_cases hlt : t < ms.length
    · go_wp2_with fail
      go_loopw [13] (fun i wr => ∃ u q : Nat, u ≤ ms.length ∧ i = .int .i64 u ∧ wr = w3.drewN q) (fun i _ => ms.length - (intOf i).toNat)
      case atStart => exact ⟨0, q, Nat.zero_le _, rfl, rfl⟩
      case round =>
        obtain ⟨u, q2, hu, rfl, rfl⟩ := hrel
        by_cases hlu : u < ms.length
        · obtain ⟨bm, om, rfl, hbm, a0, a1⟩ := CRow.at2 (x := fun m : Mk => .int .i64 (m.at_ : Int)) (y := fun m => .bool m.right) hrm3 hlt
          obtain ⟨bm', om', hbe, _, b0, b1⟩ := CRow.at2 (x := fun m : Mk => .int .i64 (m.at_ : Int)) (y := fun m => .bool m.right) hrm3 hlu
          injection hbe with hbe
          injection hbe with hb1 hb2 _
          subst hb1; subst hb2
          obtain ⟨bx, ox, rfl, hbx, x0, x1⟩ := CRow.at2 (x := fun m : Mk => .int .i64 (m.at_ : Int)) (y := fun m => .bool m.right) hrx (show t < (ms.map (mvs es)).length by rw [HLM.out]; exact hlt)
          obtain ⟨bx', ox', hbe, _, y0, y1⟩ := CRow.at2 (x := fun m : Mk => .int .i64 (m.at_ : Int)) (y := fun m => .bool m.right) hrx (show u < (ms.map (mvs es)).length by rw [HLM.out]; exact hlu)
          injection hbe with hbe
          injection hbe with hb1 hb2 _
          subst hb1; subst hb2
          simp only [List.getElem_map, mvs_right] at x0 x1 y0 y1
          have hord := mvs_order es ms[t] ms[u]
          generalize (mvs es ms[t]).at_ = xa at *
          generalize (mvs es ms[u]).at_ = ya at *
          generalize ms[t].at_ = a at *
          generalize ms[u].at_ = b at *
          generalize ms[t].right = ra at *
          generalize ms[u].right = rb at *
          have HO := Lib.hid hord
          clear hord
          have hsame : (ra != ra) = false := by simp
          go_upto_region 13 with (fail)
          go_cut [14] (fun s14 wc => ∃ (bb : Bool) (q : Nat), s14 = .bool bb ∧ (bb = true → xa ≤ ya) ∧ wc = w3.drewN q)
          case first =>
            by_cases hab : a ≤ b
            · have hd : decide (a ≤ b) = true := by simpa using hab
              cases ra
              · go_quiet (fail)
                go_wp2_with fail
                go_meet
                exact ⟨true, _, rfl, fun _ => HO.out hab (by simp), rfl⟩
              · cases rb
                · go_quiet (fail)
                  go_wp2_with fail
                  go_meet
                  exact ⟨false, _, rfl, (by simp), rfl⟩
                · go_quiet (fail)
                  go_wp2_with fail
                  go_meet
                  exact ⟨true, _, rfl, fun _ => HO.out hab (by simp), rfl⟩
            · have hd : decide (a ≤ b) = false := by simpa using hab
              go_quiet (fail)
              go_wp2_with fail
              go_meet
              exact ⟨false, _, rfl, (by simp), rfl⟩
          case rest =>
            obtain ⟨bb, q3, rfl, hbb, rfl⟩ := hcut
            cases bb
            · go_wp2_with fail
              go_quiet (fail)
              go_wp2_with fail
              go_roundw
              case rel => exact ⟨u + 1, _, by omega, by go_num, rfl⟩
              case measure => simp [intOf]; omega
            · have hxy : decide (ya < xa) = false := by have := hbb rfl; simp; omega
              go_wp2_with fail
              go_quiet (fail)
              go_wp2_with fail
              go_roundw
              case rel => exact ⟨u + 1, _, by omega, by go_num, rfl⟩
              case measure => simp [intOf]; omega
        · go_wp2_with fail
          go_roundw
          case rel => exact ⟨t + 1, _, by omega, by go_num, rfl⟩
          case measure => simp [intOf]; omega
    · go_wp2_with fail
      go_ret
      exact ⟨rfl, below_drewN k3 _⟩
end Go.Proofs.Ytafbkdgdhglakaa
