/-
  The walk of SchedAll: at every input it returns true, and nothing that was there is changed.
-/
import Derived.Test.YtifjahfolmhhpaaSchedJ
import Derived.StillTailTactics
namespace Go.Proofs.Ytifjahfolmhhpaa
open Go.RowKit Sch
set_option linter.unusedVariables false

theorem CRow.at4 {α : Type} {x y z t : α → Value} {w : World} {B : Nat} {A : Option Addr} {xs : List α} (h : Reads w B 4 A xs.length (cellsOf (fun a => [x a, y a, z a, t a]) xs)) {i : Nat} (hi : i < xs.length) :
    ∃ b off, A = some ⟨b, off, none⟩ ∧ b < B ∧ w.cell? ⟨b, off + i * 4, none⟩ = some (x xs[i]) ∧ w.cell? ⟨b, off + i * 4 + 1, none⟩ = some (y xs[i]) ∧ w.cell? ⟨b, off + i * 4 + 2, none⟩ = some (z xs[i]) ∧ w.cell? ⟨b, off + i * 4 + 3, none⟩ = some (t xs[i]) := by
  obtain ⟨b, off, hA, hb, hx⟩ := CRow.at_ (cl := fun a => [x a, y a, z a, t a]) (fun _ => rfl) (by omega) h hi
  exact ⟨b, off, hA, hb, hx 0 _ rfl, by rw [Nat.add_assoc]; exact hx 1 _ rfl, by rw [Nat.add_assoc]; exact hx 2 _ rfl, by rw [Nat.add_assoc]; exact hx 3 _ rfl⟩
def natc (x : Nat) : Value := .int .i64 (x : Int)
theorem mem_le_sum (l : List Nat) (x : Nat) (h : x ∈ l) : x ≤ l.sum := by
  induction l with
  | nil => simp at h
  | cons a l ih => rcases List.mem_cons.1 h with rfl | h; simp; have := ih h; simp; omega
theorem sum_le (left : List Nat) (h : ∀ x ∈ left, x ≤ 600) : left.sum ≤ 600 * left.length := by
  induction left with
  | nil => simp
  | cons a l ih => have := h a (by simp); have := ih (fun x hx => h x (by simp [hx])); simp; omega

set_option maxRecDepth 100000 in
set_option maxHeartbeats 4000000 in
theorem schedAll_walk (w : World) (v0 : Value) (l : List Int) (h0 : Row .i64 w v0 l) :
    Calls Try.prog 3 #[v0] w fun e w' => e = .returned (.bool true) ∧ Below w.heap.size w w' := by
  go_enter Try.func3, Try.ntmps3
  go_wp2_with fail
  refine (jobs_any v0 l 80 _ h0 (by omega)).mono ?_
  rintro e w1 ⟨v1, js, rfl, hown1, hjs, hjl, k1⟩
  have hjr := CRow.of_own jbc_len hown1
  clear hown1
  go_wp2_with fail
  refine (turned_any v1 js _ hjr (fun j hj => (hjs j hj).1) hjl).mono ?_
  rintro e w2 ⟨v2, rfl, hdr, hb2⟩
  have k2 := bstep k1 hb2
  replace hjr := hjr.later hb2
  clear k1 hb2 h0
  obtain ⟨Aj, cj, rfl, hlj, hcj, hrj⟩ := hjr
  obtain ⟨Ad, cd, rfl, hld, hcd, hrd⟩ := hdr
  have hdl : (dns ⟨0, []⟩ js).length = js.length := dns_len js _
  have HDA := Lib.hid (show ∀ i (h : i < js.length) (h2 : i < (dns ⟨0, []⟩ js).length), (dns ⟨0, []⟩ js)[i] = (Sch.stp (run ⟨0, []⟩ (js.take i)) js[i]).2 from fun i h _ => dns_at js ⟨0, []⟩ i h)
  generalize dns ⟨0, []⟩ js = ds at *
  have HRD := Lib.hid hrd
  rw [hdl] at hld ⊢
  have HDL := Lib.hid hdl
  clear hrd hdl
  unfold maxLen at hcj hcd
  go_wp2_with fail
  go_loopw [6, 7, 8, 9] (fun o s i _ wr => ∃ (k : Nat) (left : List Nat), k ≤ js.length ∧ i = .int .i64 k ∧ wr.ownsRow w2.heap.size 3 1 o left.length (left.map natc) ∧ s = .int .i64 (left.sum : Int) ∧ left.length ≤ k ∧ Hid (Inv (run ⟨0, []⟩ (js.take k)) left) ∧ (∀ x ∈ left, x ≤ 600) ∧ Below w2.heap.size w2 wr) (fun _ _ i _ _ => js.length - (intOf i).toNat)
  case atStart => exact ⟨0, [], Nat.zero_le _, rfl, World.ownsRow_nil _ _ _ _, rfl, Nat.le_refl _, Lib.hid inv0, by simp, Below.refl _ _⟩
  case round =>
    obtain ⟨k, left, hk, rfl, hown, rfl, hll, HI, hle, hbel⟩ := hrel
    obtain ⟨Al, cl, rfl, hl1, hl2⟩ := own_slice hown
    unfold maxLen at hl2
    by_cases hlt : k < js.length
    · have hkd : k < ds.length := by rw [HDL.out]; exact hlt
      obtain ⟨bj, oj, rfl, hbj, cj0, cj1⟩ := CRow.at2 (x := fun j : Jb => .int .i64 (if j.push then 1 else 2)) (y := fun j => .int .i64 (j.n : Int)) hrj hlt
      obtain ⟨bd, od, hA, hbd, cd0, cd1, cd2, cd3⟩ := CRow.at4 (x := fun d : Dn => .int .i64 (d.code : Int)) (y := fun d => .int .i64 (d.task : Int)) (z := fun d => .int .i64 (d.bytes : Int)) (t := fun d => .bool d.over) HRD.out hkd
      subst hA
      have hdk := HDA.out k hlt hkd
      rw [hdk] at cd0 cd1 cd2 cd3
      have hjk := hjs js[k] (List.getElem_mem hlt)
      have htk : js.take (k + 1) = js.take k ++ [js[k]] := List.take_succ_eq_append_getElem hlt
      have HR := Lib.hid (show run ⟨0, []⟩ (js.take (k + 1)) = (Sch.stp (run ⟨0, []⟩ (js.take k)) js[k]).1 by rw [htk, run_snoc])
      have hsum := sum_le left hle
      clear htk hdk
      have hk0 : (0 : Int) ≤ (k : Int) := by omega
      have hk1 : (k : Int) < (js.length : Int) := by omega
      generalize js[k] = j at *
      generalize run ⟨0, []⟩ (js.take k) = s at *
      rcases j with ⟨p, q⟩
      cases p
      · simp only [Bool.false_eq_true, if_false] at cj0
        obtain ⟨hok, hq20⟩ := hjk
        have hok' : 1 ≤ q ∧ q ≤ 50 := hok
        clear hok
        rcases hts : s.ts with _ | ⟨⟨t, x⟩, r⟩
        · have hs0 : left.sum = 0 := (inv_sum HI.out).2 hts
          have he : Sch.stp s ⟨false, q⟩ = (s, ⟨7, 0, 0, false⟩) := by simp [Sch.stp, hts]
          rw [he] at cd0 cd1 cd2 cd3 HR
          simp only at cd0 cd1 cd2 cd3
          have hre : run ⟨0, []⟩ (js.take (k + 1)) = s := HR.out
          rw [← hre] at HI
          rw [hs0]
          replace cd0 : w2.cell? ⟨bd, od + k * 4, none⟩ = some (.int .i64 7) := cd0
          clear hre
          replace cj0 := (hbel.cell (p := ⟨bj, oj + k * 2, none⟩) hbj).trans cj0
          replace cd0 := (hbel.cell (p := ⟨bd, od + k * 4, none⟩) hbd).trans cd0
          have HS0 := Lib.hid hs0
          clear hs0 he HR hts cd1 cd2 cd3 cj1
          go_wp2_with fail
          go_roundw
          case rel => exact ⟨k + 1, left, by omega, by go_num, hown, by rw [HS0.out], by omega, HI, hle, hbel⟩
          case measure => simp [intOf]; omega
        · obtain ⟨hlt2, hx0, hI2⟩ := inv_turn HI.out q t x r hts
          have htl : t < left.length := (List.getElem?_eq_some_iff.1 hlt2).1
          have hsm : x ≤ left.sum := by
            have := List.mem_of_getElem? hlt2
            exact mem_le_sum left x this
          have he : (Sch.stp s ⟨false, q⟩).2 = ⟨0, t, min q x, x - min q x == 0⟩ := by simp [Sch.stp, hts]
          rw [he] at cd0 cd1 cd2 cd3
          simp only at cd0 cd1 cd2 cd3
          rw [← HR.out] at hI2
          have HI2 := Lib.hid hI2
          obtain ⟨m, hm⟩ : ∃ m, min q x = m := ⟨_, rfl⟩
          rw [hm] at cd2 cd3 HI2
          have hm1 : 1 ≤ m ∧ m ≤ q ∧ m ≤ x := by omega
          have hm2 : 0 < x - m → m = q := by omega
          have hset := sum_set left t x (x - m) hlt2
          have hxl : x ≤ 600 := hle x (List.mem_of_getElem? hlt2)
          clear he hI2 hm HR hts HI
          obtain ⟨gl, cl', hvl, hgl, hgl2⟩ := hown.form (by omega)
          injection hvl with hvl1 _ hvl3
          subst hvl1
          subst hvl3
          have hlc : wr.cell? ⟨gl, t, none⟩ = some (.int .i64 (x : Int)) := by
            rw [hown.cellAt t (by omega), List.getElem?_map, hlt2]; rfl
          have hlf := hown.frozenAt t
          have hst0 := (hown.stored t (natc (x - m))).1
          rw [← List.map_set] at hst0
          have ex : ((x - m : Nat) : Int) = (x : Int) - (m : Int) := by omega
          have hst1 : (wr.setCell ⟨gl, t, none⟩ (.int .i64 ((x : Int) - (m : Int)))).ownsRow w2.heap.size 3 1 (.slice (some ⟨gl, 0, none⟩) left.length cl) (left.set t (x - m)).length ((left.set t (x - m)).map natc) := by
            rw [List.length_set, ← ex]; exact hst0
          have hbl1 := hbel.setCell (p := ⟨gl, t, none⟩) hgl (.int .i64 ((x : Int) - (m : Int)))
          have HS1 := Lib.hid hst1
          have HB1 := Lib.hid hbl1
          have HLE := Lib.hid (show ∀ y ∈ left.set t (x - m), y ≤ 600 from fun y hy => by
            rcases List.mem_or_eq_of_mem_set hy with h | h
            · exact hle y h
            · omega)
          have HSM := Lib.hid (show ((left.set t (x - m)).sum : Int) = (left.sum : Int) - (m : Int) by omega)
          have HLL := Lib.hid (show (left.set t (x - m)).length ≤ k + 1 by rw [List.length_set]; omega)
          have cjw := (hbel.cell (p := ⟨bj, oj + k * 2, none⟩) hbj).trans cj0
          have cjv := (hbel.cell (p := ⟨bj, oj + k * 2 + 1, none⟩) hbj).trans cj1
          have cdw : wr.cell? ⟨bd, od + k * 4, none⟩ = some (.int .i64 0) := (hbel.cell (p := ⟨bd, od + k * 4, none⟩) hbd).trans cd0
          have cdv := (hbel.cell (p := ⟨bd, od + k * 4 + 1, none⟩) hbd).trans cd1
          have cdu := (hbel.cell (p := ⟨bd, od + k * 4 + 2, none⟩) hbd).trans cd2
          have cdt := (hbel.cell (p := ⟨bd, od + k * 4 + 3, none⟩) hbd).trans cd3
          simp only at cjv cdv cdu cdt
          have hs7 : ((left.sum : Int) == 0) = false := by rw [beq_eq_false_iff_ne]; omega
          have ht0 : (0 : Int) ≤ (t : Int) := by omega
          have ht1 : (t : Int) < (left.length : Int) := by omega
          have e1 : decide ((t : Int) < 0) = false := by simp
          have e2 : decide (left.length ≤ t) = false := by simp; omega
          have e3 : decide ((m : Int) < 1) = false := by simp; omega
          have e4 : decide (q < m) = false := by simp; omega
          have e5 : decide (x < m) = false := by simp; omega
          have hngl : bd ≠ gl := by omega
          have hngj : bj ≠ gl := by omega
          clear cj0 cj1 cd0 cd1 cd2 cd3 hst0 hst1 hbl1 hset ex
          generalize hxm : (x - m == 0) = ov at *
          have hov1 : ov = ((x : Int) - (m : Int) == 0) := by
            rw [← hxm, Bool.eq_iff_iff, beq_iff_eq, beq_iff_eq]; omega
          go_wp2_with fail
          go_quiet (fail)
          go_wp2_with fail
          obtain ⟨W, hW⟩ : ∃ W, W = (wr.drewN nq).drew := ⟨_, rfl⟩
          have C1 : W.cell? ⟨gl, t, none⟩ = some (.int .i64 (x : Int)) := by subst hW; exact hlc
          have C2 : W.cell? ⟨bd, od + k * 4 + 2, none⟩ = some (.int .i64 (m : Int)) := by subst hW; exact cdu
          have C3 : W.cell? ⟨bd, od + k * 4 + 3, none⟩ = some (.bool ov) := by subst hW; exact cdt
          have C4 : W.cell? ⟨bj, oj + k * 2 + 1, none⟩ = some (.int .i64 (q : Int)) := by subst hW; exact cjv
          have C5 : W.frozen? ⟨gl, t, none⟩ = false := by subst hW; exact hlf
          have HS2 : Hid ((W.setCell ⟨gl, t, none⟩ (.int .i64 ((x : Int) - (m : Int)))).ownsRow w2.heap.size 3 1 (.slice (some ⟨gl, 0, none⟩) left.length cl) (left.set t (x - m)).length ((left.set t (x - m)).map natc)) := by subst hW; exact HS1
          have HB2 : Hid (Below w2.heap.size w2 (W.setCell ⟨gl, t, none⟩ (.int .i64 ((x : Int) - (m : Int))))) := by subst hW; exact ⟨HB1.out.os, HB1.out.tape, HB1.out.output, HB1.out.size, HB1.out.block⟩
          have hW2 := Lib.hid hW
          clear hW hlc cdu cdt cjv hlf HS1 HB1 cjw cdw cdv hown hbel
          refine wp_region_still_tail 11 (by kernel_rfl) (by kernel_rfl) ?_
          change wpStill _ _ (wr.drewN nq).drew _ _ _
          rw [← hW2.out]
          simp only [List.take_succ_cons, List.take_zero, List.drop_succ_cons, List.drop_zero]
          iterate 11 still_step
          refine wpStill_nil ?_
          change wpList _ _ _ _ _ (wr.drewN nq).drew
          rw [← hW2.out]
          go_wp2_with fail
          have hcl : (W.setCell ⟨gl, t, none⟩ (.int .i64 ((x : Int) - (m : Int)))).cell? ⟨gl, t, none⟩ = some (.int .i64 ((x : Int) - (m : Int))) := by simp [go_sem, C1]
          have D2 : (W.setCell ⟨gl, t, none⟩ (.int .i64 ((x : Int) - (m : Int)))).cell? ⟨bd, od + k * 4 + 2, none⟩ = some (.int .i64 (m : Int)) := by rw [World.cell?_setCell_other _ _ _ _ (by first | (simp; done) | (simp; omega))]; exact C2
          have D3 : (W.setCell ⟨gl, t, none⟩ (.int .i64 ((x : Int) - (m : Int)))).cell? ⟨bd, od + k * 4 + 3, none⟩ = some (.bool ov) := by rw [World.cell?_setCell_other _ _ _ _ (by first | (simp; done) | (simp; omega))]; exact C3
          have D4 : (W.setCell ⟨gl, t, none⟩ (.int .i64 ((x : Int) - (m : Int)))).cell? ⟨bj, oj + k * 2 + 1, none⟩ = some (.int .i64 (q : Int)) := by rw [World.cell?_setCell_other _ _ _ _ (by first | (simp; done) | (simp; omega))]; exact C4
          clear C1 C2 C3 C4 C5
          generalize W.setCell ⟨gl, t, none⟩ (.int .i64 ((x : Int) - (m : Int))) = W9 at *
          clear hov1 hW2
          by_cases hxm2 : x = m
          · have e6 : ((x : Int) - (m : Int) == 0) = true := by rw [beq_iff_eq]; omega
            have e7 : decide ((0 : Int) < (x : Int) - (m : Int)) = false := by simp; omega
            have e9 : decide (m < x) = false := by simp; omega
            have e8 : ov = true := by rw [← hxm, beq_iff_eq]; omega
            subst e8
            clear hxm hxm2
            go_wp2_with fail
            go_quiet (fail)
            go_wp2_with fail
            go_roundw
            case rel => exact ⟨k + 1, left.set t (x - m), by omega, by go_num, HS2.out, by rw [HSM.out], HLL.out, HI2, HLE.out, below_drewN HB2.out _⟩
            case measure => simp [intOf]; omega
          · have e6 : ((x : Int) - (m : Int) == 0) = false := by rw [beq_eq_false_iff_ne]; omega
            have e7 : decide ((0 : Int) < (x : Int) - (m : Int)) = true := by simp; omega
            have e9 : decide (m < x) = true := by simp; omega
            have e8 : ov = false := by rw [← hxm, beq_eq_false_iff_ne]; omega
            subst e8
            obtain rfl : m = q := hm2 (by omega)
            clear hxm hxm2
            go_wp2_with fail
            go_quiet (fail)
            go_wp2_with fail
            go_roundw
            case rel => exact ⟨k + 1, left.set t (x - m), by omega, by go_num, HS2.out, by rw [HSM.out], HLL.out, HI2, HLE.out, below_drewN HB2.out _⟩
            case measure => simp [intOf]; omega
      · simp only [if_true] at cj0
        have hok' : q ≤ 600 := hjk.1
        have he : Sch.stp s ⟨true, q⟩ = ((Sch.stp s ⟨true, q⟩).1, ⟨0, s.next, 0, q == 0⟩) := rfl
        have hnx := HI.out.next
        have HI2 := Lib.hid (inv_push HI.out q)
        rw [he] at cd0 cd1 cd2 cd3
        rw [hnx] at cd1
        simp only at cd0 cd1 cd2 cd3
        rw [← HR.out] at HI2
        replace cj0 := (hbel.cell (p := ⟨bj, oj + k * 2, none⟩) hbj).trans cj0
        have cjw := cj1
        replace cj1 := (hbel.cell (p := ⟨bj, oj + k * 2 + 1, none⟩) hbj).trans cj1
        replace cd0 := (hbel.cell (p := ⟨bd, od + k * 4, none⟩) hbd).trans cd0
        replace cd1 := (hbel.cell (p := ⟨bd, od + k * 4 + 1, none⟩) hbd).trans cd1
        replace cd3 := (hbel.cell (p := ⟨bd, od + k * 4 + 3, none⟩) hbd).trans cd3
        clear he hnx HR HI cd2
        have hb1 : ((left.length : Int) != (left.length : Int)) = false := by simp
        obtain ⟨qb, hqb⟩ : ∃ qb : Bool, (q == 0) = qb := ⟨_, rfl⟩
        have hqb2 : ((q : Int) == 0) = qb := by rw [← hqb, Bool.eq_iff_iff, beq_iff_eq, beq_iff_eq]; omega
        rw [hqb] at cd3
        clear hqb
        cases qb
        all_goals
          go_wp2_with fail
          go_quiet (fail)
          have hown1 : (wr.drewN nq).ownsRow w2.heap.size 3 1 (.slice Al left.length cl) left.length (left.map natc) := hown
          have hbel1 := below_drewN hbel nq
          clear hown hbel cd0 cd1 cd3
          go_wp2_with (at_builtin; refine wpList_app1 rfl (.tmp 61) (.tmp 67) _ rfl w2.heap.size 3 _ 8 Try.underlying22 int_info rfl _ _ _ rfl hown1 (.int .i64 (q : Int)) rfl rfl rfl (by omega) (by omega) hbel1.size ?_)
          intro v' w4 hown' hbel' _
          replace hbel' := hbel' _ (Nat.le_refl _) _ hbel1
          have cj1' : w4.cell? ⟨bj, oj + k * 2 + 1, none⟩ = some (.int .i64 (q : Int)) := (hbel'.cell (p := ⟨bj, oj + k * 2 + 1, none⟩) hbj).trans cjw
          clear hown1 hbel1 cj0 cj1
          go_wp2_with fail
          go_roundw
          case rel =>
            exact ⟨k + 1, left ++ [q], by omega, by go_num, by rw [List.length_append, List.map_append]; exact hown', by simp, by simp; omega, HI2, fun x hx => (by
                rcases List.mem_append.1 hx with h | h
                · exact hle x h
                · simp at h; omega), hbel'⟩
          case measure => simp [intOf]; omega
    · obtain rfl : k = js.length := by omega
      go_wp2_with fail
      go_ret
      exact ⟨rfl, bstep k2 hbel⟩
end Go.Proofs.Ytifjahfolmhhpaa
