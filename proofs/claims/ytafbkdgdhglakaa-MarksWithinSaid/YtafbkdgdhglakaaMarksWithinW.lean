/-
  The walk of the law MarksWithin: whatever its input, it returns true and changes nothing that was there.
-/
import Derived.Test.YtafbkdgdhglakaaMovedM
import Derived.Test.YtafbkdgdhglakaaInv
namespace Go.Proofs.Ytafbkdgdhglakaa
open Go.RowKit
set_option linter.unusedVariables false

theorem mvs_first (es : List Ed) : (mvs es ⟨0, false⟩).at_ = 0 := by
  induction es with
  | nil => rfl
  | cons e es ih =>
    have h : mv1 e ⟨0, false⟩ = ⟨0, false⟩ := by
      unfold mv1 mv
      simp only [Mk.mk.injEq, and_true]
      repeat' split
      all_goals first | omega | (exfalso; simp_all; done) | (exfalso; contradiction)
    show (mvs es (mv1 e ⟨0, false⟩)).at_ = 0
    rw [h]; exact ih
theorem mvs_last (es : List Ed) : ∀ n, okr n es → (mvs es ⟨n, true⟩).at_ = sized n es := by
  induction es with
  | nil => intro n _; rfl
  | cons e es ih =>
    intro n ho
    have h1 := ho.1
    have h : mv1 e ⟨n, true⟩ = ⟨n + e.put.size - e.c, true⟩ := by
      unfold mv1 mv
      simp only [Mk.mk.injEq, and_true]
      repeat' split
      all_goals first | omega | (exfalso; simp_all; done) | (exfalso; contradiction)
    show (mvs es (mv1 e ⟨n, true⟩)).at_ = _
    rw [h]; exact ih _ ho.2.2

set_option maxRecDepth 100000 in
set_option maxHeartbeats 4000000 in
theorem marksWithin_walk (w : World) (v0 : Value) (l : List Int) (h0 : Row .i64 w v0 l) (v1 : Value) (tx : List Int) (h1 : Row .i64 w v1 tx) (v2 : Value) (cs : List Chg) (h2 : Chgs w v2 cs) :
    Calls Try.prog 13 #[v0, v1, v2] w fun e w' => e = .returned (.bool true) ∧ Below w.heap.size w w' := by
  obtain ⟨i0, hi, hz0, hz1, hz2⟩ := info_parts mark_info
  go_enter Try.func13, Try.ntmps13
  go_wp2_with fail
  refine (textOf_any v1 tx 80 _ h1 (by omega) (by omega)).mono ?_
  rintro e w1 ⟨s, rfl, es0, rfl⟩
  have ss := text_len _ _ _ es0; clear es0
  simp only [show Int.toNat 80 = 80 from rfl] at ss
  go_wp2_with fail
  refine (edits_any v2 cs 15 s.size _ h2 (by omega) (by omega)).mono ?_
  rintro e w2 ⟨ve, es, rfl, he, hv, hl, k2⟩
  have ho := okr_of_vld es _ hv (by omega)
  have hput := vld_put600 es _ hv
  replace h0 := h0.later k2
  clear h1 h2 hv
  go_wp2_with fail
  refine (marks_own v0 l 20 s.size _ h0 (by omega) (by omega)).mono ?_
  rintro e w3 ⟨vm, ms, rfl, hms, hmn, hml, hb3⟩
  have hms' := hms.alloc (.cells #[.int .i64 0, .bool false, .int .i64 (s.size : Int), .bool true] 58)
  have hnew := Reads.news w3 [.int .i64 0, .bool false, .int .i64 (s.size : Int), .bool true] 58 2 2 rfl
  have hB3 := hb3.alloc hb3.size (.cells #[.int .i64 0, .bool false, .int .i64 (s.size : Int), .bool true] 58)
  clear hms hb3 h0
  go_wp2_with (at_builtin; refine wpList_append_any _ rfl (.tmp 25) (.tmp 29) _ rfl w2.heap.size 58 i0 _ 2 16 Try.underlying53 hi hz0 hz1 hz2 rfl (by decide) vm ms.length (cellsOf mkc ms) rfl hms' _ (some ⟨w3.heap.size, 0, none⟩) 2 2 [.int .i64 0, .bool false, .int .i64 (s.size : Int), .bool true] rfl hnew (by simp [Value.oneCell']) (by unfold maxLen; omega) (by omega) hB3.size ?_)
  intro v4 w4 o4 hg4 _
  have hB4 := hB3.grown hg4 hB3.size (fun g e => (hms'.lt g e).1)
  have he4 := he.later hB4
  have k4 := bstep k2 hB4
  have hcr : CRow 2 mkc w4 v4 (ms ++ [⟨0, false⟩, ⟨s.size, true⟩]) := CRow.of_own mkc_len (by rw [cellsOf_append, List.length_append]; exact o4)
  have hmn' : ∀ m ∈ ms ++ [⟨0, false⟩, ⟨s.size, true⟩], m.at_ ≤ s.size := by
    intro m h
    rcases List.mem_append.1 h with h | h
    · exact hmn m h
    · simp at h; rcases h with rfl | rfl <;> simp
  have hl' : (ms ++ [(⟨0, false⟩ : Mk), ⟨s.size, true⟩]).length ≤ 60 := by simp; omega
  clear hg4 o4 hms' hnew hB3 he hB4 k2
  go_wp2_with fail
  refine (movedM_any s.size _ _ _ es _ hcr he4 (by omega) hmn' hl' (by omega) hput ho).mono ?_
  rintro e w5 ⟨vx, rfl, hx, hb5⟩
  have he5 := he4.later hb5
  have k5 := bstep k4 hb5
  clear hcr he4 hb5 k4
  go_wp2_with fail
  refine (apply_any s _ es _ he5 (by omega) (by omega) hput ho).mono ?_
  rintro e w6 ⟨rfl, hb6⟩
  replace hx := hx.later hb6
  have k6 := bstep k5 hb6
  have hsz := rn_size es s ho
  clear he5 hb6 k5
  have hL : ∀ m ∈ (ms ++ [(⟨0, false⟩ : Mk), ⟨s.size, true⟩]).map (mvs es), m.at_ ≤ (rn s es).size := by
    intro m h
    obtain ⟨m0, h0, rfl⟩ := List.mem_map.1 h
    rw [hsz]; exact mvs_le _ _ _ ho (hmn' m0 h0)
  have f0 := mvs_first es
  have f1 := mvs_last es s.size ho
  rw [← hsz] at f1
  rw [List.map_append] at hx hL
  have hq : (ms.map (mvs es)).length ≤ 40 := by rw [List.length_map]; exact hml
  generalize ms.map (mvs es) = L0 at *
  simp only [List.map_cons, List.map_nil] at hx hL
  generalize mvs es ⟨0, false⟩ = m0 at *
  generalize mvs es ⟨s.size, true⟩ = m1 at *
  generalize rn s es = t at *
  obtain ⟨Ax, cx, rfl, hlx, hcx, hrx⟩ := hx
  have hlen : (L0 ++ [m0, m1]).length = L0.length + 2 := by simp
  have g0 : (L0 ++ [m0, m1])[L0.length]'(by omega) = m0 := by simp
  have g1 : (L0 ++ [m0, m1])[L0.length + 1]'(by omega) = m1 := by simp
  obtain ⟨bx, ox, rfl, hbx, y0, -⟩ := CRow.at2 (x := fun m : Mk => .int .i64 (m.at_ : Int)) (y := fun m => .bool m.right) hrx (show L0.length < (L0 ++ [m0, m1]).length by omega)
  obtain ⟨bx', ox', hbe, _, z0, -⟩ := CRow.at2 (x := fun m : Mk => .int .i64 (m.at_ : Int)) (y := fun m => .bool m.right) hrx (show L0.length + 1 < (L0 ++ [m0, m1]).length by omega)
  injection hbe with hbe
  injection hbe with hb1 hb2 _
  subst hb1; subst hb2
  rw [g0, f0] at y0
  rw [g1, f1] at z0
  rw [hlen] at hlx hrx ⊢
  clear g0 g1 f0 f1 hsz
  unfold maxLen at hcx
  generalize L0 ++ [m0, m1] = L at *
  have HLEN := Lib.hid hlen
  clear hlen
  have hq0 : L0.length ≤ 40 := hq
  generalize L0.length = q at *
  go_wp2_with fail
  go_loop [15] (fun i => ∃ t' : Nat, t' ≤ q + 2 ∧ i = .int .i64 t') (fun i => q + 2 - (intOf i).toNat)
  case atStart => exact ⟨0, Nat.zero_le _, rfl⟩
  case round =>
    obtain ⟨j, hj, rfl⟩ := hrel
    by_cases hlt : j < q + 2
    · have hjL : j < L.length := by rw [HLEN.out]; exact hlt
      obtain ⟨bx', ox', hbe, _, x0, -⟩ := CRow.at2 (x := fun m : Mk => .int .i64 (m.at_ : Int)) (y := fun m => .bool m.right) (show Reads _ _ 2 (some ⟨bx, ox, none⟩) L.length (cellsOf mkc L) by rw [HLEN.out]; exact hrx) hjL
      injection hbe with hbe
      injection hbe with hb1 hb2 _
      subst hb1; subst hb2
      have hle := hL L[j] (List.getElem_mem hjL)
      generalize L[j].at_ = a at *
      go_wp2_with fail
      go_round
      case rel => exact ⟨j + 1, by omega, by go_num⟩
      case measure => simp [intOf]; omega
    · go_wp2_with fail
      go_ret
      exact ⟨rfl, k6⟩
end Go.Proofs.Ytafbkdgdhglakaa
