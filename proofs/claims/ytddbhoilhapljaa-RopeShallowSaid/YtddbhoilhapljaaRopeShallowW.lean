/-
  The walk of RopeShallow: at every input it returns true, and nothing that was there is changed.
-/
import Derived.Test.YtddbhoilhapljaaRopeShP
import Derived.Test.YtddbhoilhapljaaRopeR
import Derived.Test.YtddbhoilhapljaaText
namespace Go.Proofs.Ytddbhoilhapljaa
open Go.RowKit
set_option linter.unusedVariables false

set_option maxRecDepth 100000 in
set_option maxHeartbeats 8000000 in
theorem ropeShallow_walk (w : World) (v0 : Value) (xs : List Int) (h0 : Row .i64 w v0 xs) (front : Bool) :
    Calls Try.prog 11 #[v0, .bool front] w fun e w' => e = .returned (.bool true) ∧ Below w.heap.size w w' := by
  have hbd := h0.bd
  obtain ⟨A, c, rfl, hl, hc, hw, hrd⟩ := h0
  unfold maxLen at hc
  have hO : (w.alloc (.cells (cellsOf roc shOps).toArray 66)).ownsRow w.heap.size 66 6 (.slice (some ⟨w.heap.size, 0, none⟩) 3 3) 3 (cellsOf roc shOps) := by
    exact World.ownsRow_lit w _ 3 (Nat.le_refl _) (by decide) rfl
  have hB0 := (Below.refl w.heap.size w).alloc (Nat.le_refl _) (.cells (cellsOf roc shOps).toArray 66)
  have HW := Lib.hid hw
  have HRD := Lib.hid hrd
  clear hw hrd
  go_enter Try.func11, Try.ntmps11
  go_wp2_with fail
  have hO' := Lib.hid hO
  clear hO
  have hB0' := Lib.hid hB0
  clear hB0
  go_loopw [5, 6, 7, 8] (fun vo vn vs i wr => ∃ (k now size : Nat) (os : List Ro), k ≤ 50 ∧ i = .int .i64 k ∧ vn = .int .i64 now ∧ vs = .int .i64 size ∧ ShI k os now size ∧ wr.ownsRow w.heap.size 66 6 vo os.length (cellsOf roc os) ∧ Below w.heap.size w wr) (fun _ _ _ i _ => 50 - (intOf i).toNat)
  case atStart => exact ⟨0, 0, 0, shOps, by omega, rfl, rfl, rfl, shI_zero, hO'.out, hB0'.out⟩
  case round =>
    obtain ⟨k, now, size, os, hk, rfl, rfl, rfl, hI, ho, hb⟩ := hrel
    by_cases hlt : k < 50
    · rw [hI.len] at ho
      obtain ⟨Ao, co, rfl, hAo1, hAo2⟩ := own_slice ho
      have HI := Lib.hid hI
      have HO1 := fun cs : Array Value => Lib.hid (ho.alloc (.cells cs 66))
      have hsz := hI.le
      have hsw := hb.size
      have hb9 := hb
      have HB1 := fun cs : Array Value => Lib.hid (hb.alloc hsw (.cells cs 66))
      clear hI ho hb
      by_cases hx : k < xs.length
      · obtain ⟨b, off, rfl, hbl, hcell⟩ := Row.at_ HRD.out hx
        have hp := picked_any (xs.getD k 0) 2 wr (hbd k) (by omega) (by omega)
        have hm := Int.emod_nonneg (xs.getD k 0) (show (2 : Int) ≠ 0 by omega)
        have hm2 := Int.emod_lt_of_pos (xs.getD k 0) (show (0 : Int) < 2 by omega)
        have hcc := (hb9.cell (p := ⟨b, off + k, none⟩) hbl).trans hcell
        generalize xs.getD k 0 = xk at *
        have h01 : xk % 2 = 0 ∨ xk % 2 = 1 := by omega
        have HP := Lib.hid hp
        clear hp hcell hm hm2 hbd hb9
        rcases h01 with h01 | h01
        all_goals rw [h01] at HP
        · cases front
          · go_wp2_with fail
            refine HP.out.mono ?_
            rintro e w' ⟨rfl, rfl⟩
            go_wp2_with (at_builtin; refine wpList_appN rfl (.tmp 45) (.tmp 47) _ rfl w.heap.size 66 _ 6 56 Try.underlying60 op_info rfl (by decide) (.slice Ao (3 + k) co) (3 + k) _ rfl (HO1 #[.int .i64 2, .string ⟨#[]⟩, .int .i64 (now : Int), .int .i64 1, .int .i64 0, .int .i64 0]).out (roc ⟨2, ⟨#[]⟩, now, 1, 0, 0⟩) rfl (wr.heap.size + 1) rfl (by simp) rfl (roc_one _) (by omega) (by omega) (by simp; omega) ?_; intro v8 w8 ho8 hB8 hg8; have HB8 := Lib.hid (hB8 _ (Nat.le_refl _) _ (HB1 #[.int .i64 2, .string ⟨#[]⟩, .int .i64 (now : Int), .int .i64 1, .int .i64 0, .int .i64 0]).out); have HO8 := Lib.hid ho8; obtain ⟨A8, c8', rfl, hA8, hA82⟩ := own_slice ho8; clear ho8 hB8 hg8)
            go_roundw
            case rel =>
              have h9 := shI_step HI.out hlt 1 now 1 (by decide) (by simp) 1 (by decide)
              have h10 : (os ++ [(⟨2, ⟨#[]⟩, now, 1, 0, 0⟩ : Ro)]).length = 3 + k + 1 := by rw [h9.len]; omega
              refine ⟨k + 1, k + 3, size + 1, os ++ [⟨2, ⟨#[]⟩, now, 1, 0, 0⟩], by omega, by go_num, ?_, by go_num, h9, ?_, HB8.out.alloc HB8.out.size _⟩
              · congr 1; omega
              · rw [h10, cellsOf_snoc]; exact HO8.out.alloc _
            case measure => simp [intOf]; omega
          · go_wp2_with fail
            refine HP.out.mono ?_
            rintro e w' ⟨rfl, rfl⟩
            go_wp2_with (at_builtin; refine wpList_appN rfl (.tmp 45) (.tmp 47) _ rfl w.heap.size 66 _ 6 56 Try.underlying60 op_info rfl (by decide) (.slice Ao (3 + k) co) (3 + k) _ rfl (HO1 #[.int .i64 2, .string ⟨#[]⟩, .int .i64 1, .int .i64 (now : Int), .int .i64 0, .int .i64 0]).out (roc ⟨2, ⟨#[]⟩, 1, now, 0, 0⟩) rfl (wr.heap.size + 1) rfl (by simp) rfl (roc_one _) (by omega) (by omega) (by simp; omega) ?_; intro v8 w8 ho8 hB8 hg8; have HB8 := Lib.hid (hB8 _ (Nat.le_refl _) _ (HB1 #[.int .i64 2, .string ⟨#[]⟩, .int .i64 1, .int .i64 (now : Int), .int .i64 0, .int .i64 0]).out); have HO8 := Lib.hid ho8; obtain ⟨A8, c8', rfl, hA8, hA82⟩ := own_slice ho8; clear ho8 hB8 hg8)
            go_roundw
            case rel =>
              have h9 := shI_step HI.out hlt 1 1 now (by decide) (by simp) 1 (by decide)
              have h10 : (os ++ [(⟨2, ⟨#[]⟩, 1, now, 0, 0⟩ : Ro)]).length = 3 + k + 1 := by rw [h9.len]; omega
              refine ⟨k + 1, k + 3, size + 1, os ++ [⟨2, ⟨#[]⟩, 1, now, 0, 0⟩], by omega, by go_num, ?_, by go_num, h9, ?_, HB8.out.alloc HB8.out.size _⟩
              · congr 1; omega
              · rw [h10, cellsOf_snoc]; exact HO8.out.alloc _
            case measure => simp [intOf]; omega
        · cases front
          · go_wp2_with fail
            refine HP.out.mono ?_
            rintro e w' ⟨rfl, rfl⟩
            go_wp2_with (at_builtin; refine wpList_appN rfl (.tmp 45) (.tmp 47) _ rfl w.heap.size 66 _ 6 56 Try.underlying60 op_info rfl (by decide) (.slice Ao (3 + k) co) (3 + k) _ rfl (HO1 #[.int .i64 2, .string ⟨#[]⟩, .int .i64 (now : Int), .int .i64 2, .int .i64 0, .int .i64 0]).out (roc ⟨2, ⟨#[]⟩, now, 2, 0, 0⟩) rfl (wr.heap.size + 1) rfl (by simp) rfl (roc_one _) (by omega) (by omega) (by simp; omega) ?_; intro v8 w8 ho8 hB8 hg8; have HB8 := Lib.hid (hB8 _ (Nat.le_refl _) _ (HB1 #[.int .i64 2, .string ⟨#[]⟩, .int .i64 (now : Int), .int .i64 2, .int .i64 0, .int .i64 0]).out); have HO8 := Lib.hid ho8; obtain ⟨A8, c8', rfl, hA8, hA82⟩ := own_slice ho8; clear ho8 hB8 hg8)
            go_roundw
            case rel =>
              have h9 := shI_step HI.out hlt 2 now 2 (by decide) (by simp) 3 (by decide)
              have h10 : (os ++ [(⟨2, ⟨#[]⟩, now, 2, 0, 0⟩ : Ro)]).length = 3 + k + 1 := by rw [h9.len]; omega
              refine ⟨k + 1, k + 3, size + 3, os ++ [⟨2, ⟨#[]⟩, now, 2, 0, 0⟩], by omega, by go_num, ?_, by go_num, h9, ?_, HB8.out.alloc HB8.out.size _⟩
              · congr 1; omega
              · rw [h10, cellsOf_snoc]; exact HO8.out.alloc _
            case measure => simp [intOf]; omega
          · go_wp2_with fail
            refine HP.out.mono ?_
            rintro e w' ⟨rfl, rfl⟩
            go_wp2_with (at_builtin; refine wpList_appN rfl (.tmp 45) (.tmp 47) _ rfl w.heap.size 66 _ 6 56 Try.underlying60 op_info rfl (by decide) (.slice Ao (3 + k) co) (3 + k) _ rfl (HO1 #[.int .i64 2, .string ⟨#[]⟩, .int .i64 2, .int .i64 (now : Int), .int .i64 0, .int .i64 0]).out (roc ⟨2, ⟨#[]⟩, 2, now, 0, 0⟩) rfl (wr.heap.size + 1) rfl (by simp) rfl (roc_one _) (by omega) (by omega) (by simp; omega) ?_; intro v8 w8 ho8 hB8 hg8; have HB8 := Lib.hid (hB8 _ (Nat.le_refl _) _ (HB1 #[.int .i64 2, .string ⟨#[]⟩, .int .i64 2, .int .i64 (now : Int), .int .i64 0, .int .i64 0]).out); have HO8 := Lib.hid ho8; obtain ⟨A8, c8', rfl, hA8, hA82⟩ := own_slice ho8; clear ho8 hB8 hg8)
            go_roundw
            case rel =>
              have h9 := shI_step HI.out hlt 2 2 now (by decide) (by simp) 3 (by decide)
              have h10 : (os ++ [(⟨2, ⟨#[]⟩, 2, now, 0, 0⟩ : Ro)]).length = 3 + k + 1 := by rw [h9.len]; omega
              refine ⟨k + 1, k + 3, size + 3, os ++ [⟨2, ⟨#[]⟩, 2, now, 0, 0⟩], by omega, by go_num, ?_, by go_num, h9, ?_, HB8.out.alloc HB8.out.size _⟩
              · congr 1; omega
              · rw [h10, cellsOf_snoc]; exact HO8.out.alloc _
            case measure => simp [intOf]; omega
      · cases front
        · go_wp2_with (at_builtin; refine wpList_appN rfl (.tmp 45) (.tmp 47) _ rfl w.heap.size 66 _ 6 56 Try.underlying60 op_info rfl (by decide) (.slice Ao (3 + k) co) (3 + k) _ rfl (HO1 #[.int .i64 2, .string ⟨#[]⟩, .int .i64 (now : Int), .int .i64 1, .int .i64 0, .int .i64 0]).out (roc ⟨2, ⟨#[]⟩, now, 1, 0, 0⟩) rfl (wr.heap.size + 1) rfl (by simp) rfl (roc_one _) (by omega) (by omega) (by simp; omega) ?_; intro v8 w8 ho8 hB8 hg8; have HB8 := Lib.hid (hB8 _ (Nat.le_refl _) _ (HB1 #[.int .i64 2, .string ⟨#[]⟩, .int .i64 (now : Int), .int .i64 1, .int .i64 0, .int .i64 0]).out); have HO8 := Lib.hid ho8; obtain ⟨A8, c8', rfl, hA8, hA82⟩ := own_slice ho8; clear ho8 hB8 hg8)
          go_roundw
          case rel =>
            have h9 := shI_step HI.out hlt 1 now 1 (by decide) (by simp) 1 (by decide)
            have h10 : (os ++ [(⟨2, ⟨#[]⟩, now, 1, 0, 0⟩ : Ro)]).length = 3 + k + 1 := by rw [h9.len]; omega
            refine ⟨k + 1, k + 3, size + 1, os ++ [⟨2, ⟨#[]⟩, now, 1, 0, 0⟩], by omega, by go_num, ?_, by go_num, h9, ?_, HB8.out.alloc HB8.out.size _⟩
            · congr 1; omega
            · rw [h10, cellsOf_snoc]; exact HO8.out.alloc _
          case measure => simp [intOf]; omega
        · go_wp2_with (at_builtin; refine wpList_appN rfl (.tmp 45) (.tmp 47) _ rfl w.heap.size 66 _ 6 56 Try.underlying60 op_info rfl (by decide) (.slice Ao (3 + k) co) (3 + k) _ rfl (HO1 #[.int .i64 2, .string ⟨#[]⟩, .int .i64 1, .int .i64 (now : Int), .int .i64 0, .int .i64 0]).out (roc ⟨2, ⟨#[]⟩, 1, now, 0, 0⟩) rfl (wr.heap.size + 1) rfl (by simp) rfl (roc_one _) (by omega) (by omega) (by simp; omega) ?_; intro v8 w8 ho8 hB8 hg8; have HB8 := Lib.hid (hB8 _ (Nat.le_refl _) _ (HB1 #[.int .i64 2, .string ⟨#[]⟩, .int .i64 1, .int .i64 (now : Int), .int .i64 0, .int .i64 0]).out); have HO8 := Lib.hid ho8; obtain ⟨A8, c8', rfl, hA8, hA82⟩ := own_slice ho8; clear ho8 hB8 hg8)
          go_roundw
          case rel =>
            have h9 := shI_step HI.out hlt 1 1 now (by decide) (by simp) 1 (by decide)
            have h10 : (os ++ [(⟨2, ⟨#[]⟩, 1, now, 0, 0⟩ : Ro)]).length = 3 + k + 1 := by rw [h9.len]; omega
            refine ⟨k + 1, k + 3, size + 1, os ++ [⟨2, ⟨#[]⟩, 1, now, 0, 0⟩], by omega, by go_num, ?_, by go_num, h9, ?_, HB8.out.alloc HB8.out.size _⟩
            · congr 1; omega
            · rw [h10, cellsOf_snoc]; exact HO8.out.alloc _
          case measure => simp [intOf]; omega
    · obtain rfl : k = 50 := by omega
      have hrow := CRow.of_own roc_len ho
      have hvl := hI.vld
      rw [hI.len] at ho
      obtain ⟨Ao, co, rfl, hAo1, hAo2⟩ := own_slice ho
      have HI := Lib.hid hI
      have HB := Lib.hid hb
      have hrow' := Lib.hid hrow
      have hvl' := Lib.hid hvl
      clear hI ho hb hrow hvl
      go_wp2_with (at_builtin; refine wpList_copyC roc_len roc_one rfl (.tmp 60) _ rfl 66 _ 56 Try.underlying60 op_info rfl (by decide) _ os rfl hrow'.out (by rw [HI.out.len]; omega) (by rw [HI.out.len]; omega) ?_)
      intro v2 w2 ho2 hp2 hb2
      have hl80 : os.length ≤ 80 := by rw [HI.out.len]; decide
      have HD := Lib.hid (depths_any v2 os w2 hp2 hl80 hvl'.out)
      obtain ⟨A2, c2, rfl, hA21, hA22⟩ := own_slice ho2
      clear hp2 ho2
      go_wp2_with fail
      refine HD.out.mono ?_
      rintro e w3 ⟨va, os', rfl, hts, hok, hva, hb3⟩
      have hb23 := bstep hb2 hb3
      have HM := Lib.hid (measure_any _ os w3 (hrow'.out.later hb23) hl80 hvl'.out)
      have hcn : (runT [] os).1.length = 53 := HI.out.cnt
      have hlo : os'.length = 53 := by rw [← List.length_map (f := otx), hts, hcn]
      rw [hlo] at hva
      obtain ⟨g3, c3, rfl, hg3, hgl3⟩ := hva.form (by decide)
      clear HD
      go_wp2_with fail
      refine HM.out.mono ?_
      rintro e w4 ⟨vp, vh, rfl, hvp, hvh, hb4⟩
      have hI := HI.out
      have hn := hI.now_
      have hge := hI.ge
      have hle := hI.le
      have hnl : now < os'.length := by omega
      have hoe : otx os'[now] = (runT [] os).1.getD now [] := by
        rw [← hts, List.getD_eq_getElem?_getD, List.getElem?_map, List.getElem?_eq_getElem hnl]; rfl
      have hdp := fun j => odp_le os'[now] (hok _ (List.getElem_mem hnl)) size j (by rw [hoe, hI.is_]) (by omega)
      generalize hdv : odp os'[now] = dv at *
      have hdvc : (os'.map dpV)[now]? = some (.int .i64 (dv : Int)) := by rw [List.getElem?_map, List.getElem?_eq_getElem hnl, ← hdv]; rfl
      rw [hcn] at hvp hvh
      obtain ⟨g4, c4, rfl, hg4, hgl4⟩ := hvp.form (by decide)
      obtain ⟨A5, c5, rfl, hA51, hA52⟩ := own_slice hvh
      have x3 := hva.cells (g := g3) rfl now _ hdvc
      have hnc : now < (runT [] os).1.length := by omega
      have y0 := hvp.cells (g := g4) rfl (now * 3 + 0) _ ((cellsOf_at posC_len _ now hnc 0 (by decide)).trans rfl)
      have y1 := hvp.cells (g := g4) rfl (now * 3 + 1) _ ((cellsOf_at posC_len _ now hnc 1 (by decide)).trans rfl)
      have y2 := hvp.cells (g := g4) rfl (now * 3 + 2) _ ((cellsOf_at posC_len _ now hnc 2 (by decide)).trans rfl)
      have hts9 : (runT [] os).1[now].length = size := by rw [← hI.is_, List.getD_eq_getElem?_getD, List.getElem?_eq_getElem hnc]; rfl
      have HPM := Lib.hid (fun W => posMay_any (runT [] os).1[now] W (by omega))
      unfold posv at HPM
      generalize (runT [] os).1[now] = t at *
      rw [hts9] at HPM y0
      rw [add_head] at x3 y0 y1 y2
      have x3' := (hb4.cell (p := ⟨g3, now, none⟩) hgl3).trans x3
      have HB4 := Lib.hid (bstep HB.out (bstep hb23 hb4))
      have HDP := Lib.hid hdp
      have hs43 := hb4.size
      clear hI hva hvp hvh hdvc hts hok hoe hdv hdp hnl hnc hcn hlo x3 hb2 hb3 hb4 hb23 HI hrow' hvl' HM hl80 hA21 hA22 hts9
      go_wp2_with fail
      go_loopw [16, 17] (fun a b wr => ∃ j : Nat, j ≤ 8 ∧ a = .int .i64 ((2 + 2 * j : Nat) : Int) ∧ b = .int .i64 ((size / 2 ^ j : Nat) : Int) ∧ Below w4.heap.size w4 wr) (fun _ b _ => (intOf b).toNat)
      case atStart => exact ⟨0, by omega, rfl, by simp, Below.refl _ _⟩
      case round =>
        obtain ⟨j, hj, rfl, rfl, hb⟩ := hrel
        have hz : size / 2 ^ j / 2 = size / 2 ^ (j + 1) := by rw [Nat.div_div_eq_div_mul, Nat.pow_succ]
        have h8 : j = 8 → size / 2 ^ j = 0 := fun e => by rw [e]; exact Nat.div_eq_of_lt (by omega)
        have hq0 : size / 2 ^ j = 0 → size < 2 ^ j := fun e => by
          rcases Nat.lt_or_ge size (2 ^ j) with h | h
          · exact h
          · have := Nat.div_pos h (Nat.two_pow_pos j); omega
        have hqs : size / 2 ^ j ≤ size := Nat.div_le_self _ _
        generalize size / 2 ^ j = q at *
        by_cases hq : 0 < q
        · have HZ := Lib.hid hz
          have hj8 : j ≤ 7 := by
            rcases Nat.lt_or_ge j 8 with h | h
            · omega
            · have := h8 (by omega); omega
          have hdq : (q : Int).tdiv 2 = ((q / 2 : Nat) : Int) := by rw [Int.tdiv_eq_ediv_of_nonneg (by omega)]; omega
          clear hz h8 hq0
          go_wp2_with fail
          go_roundw
          case rel => exact ⟨j + 1, by omega, by go_num, by rw [← HZ.out]; go_num, hb⟩
          case measure => simp [intOf]; omega
        · obtain rfl : q = 0 := by omega
          have hd := HDP.out j (hq0 rfl)
          have hd1 := hd.1
          have hd2 := hd.2
          have z0 : wr.cell? ⟨g4, now * 3, none⟩ = some (.int .i64 (size : Int)) := (hb.cell (p := ⟨g4, now * 3 + 0, none⟩) hgl4).trans y0
          have z1 := (hb.cell (p := ⟨g4, now * 3 + 1, none⟩) hgl4).trans y1
          have z2 := (hb.cell (p := ⟨g4, now * 3 + 2, none⟩) hgl4).trans y2
          have z3 := (hb.cell (p := ⟨g3, now, none⟩) (Nat.lt_of_lt_of_le hgl3 hs43)).trans x3'
          have HB5 := Lib.hid (bstep HB4.out hb)
          clear hd HDP y0 y1 y2 x3' hb hz h8 hq0
          go_wp2_with fail
          refine (HPM.out _).mono ?_
          rintro e w9 ⟨rfl, hb9⟩
          go_wp2_with fail
          go_ret
          exact ⟨rfl, bstep HB5.out hb9⟩
end Go.Proofs.Ytddbhoilhapljaa
