/-
  The walk of NormApart: at every input it returns true, and nothing that was there is changed.
-/
import Derived.Test.YthemlhkdgaeogaaRot
import Derived.Test.YthemlhkdgaeogaaSpanS
import Derived.Test.YthemlhkdgaeogaaCopy
import Derived.BigQuiet
import Derived.Deep.QuietTactic
namespace Go.Proofs.Ythemlhkdgaeogaa
open Go.RowKit
set_option linter.unusedVariables false
set_option linter.unusedSimpArgs false

set_option maxRecDepth 100000 in
set_option maxHeartbeats 16000000 in
theorem normApart_walk (w : World) (v0 : Value) (ys : List Int) (h0 : Row .i64 w v0 ys) (size : Int) (hsz : -9223372036854775808 ≤ size ∧ size ≤ 9223372036854775807) (turn : Int) (htu : -9223372036854775808 ≤ turn ∧ turn ≤ 9223372036854775807) :
    Calls Try.prog 4 #[v0, .int .i64 size, .int .i64 turn] w fun e w' => e = .returned (.bool true) ∧ Below w.heap.size w w' := by
  obtain ⟨n, hn, KN⟩ := pickc_nat size 120 hsz (by omega) (by omega)
  have KN := Lib.hid KN
  have HC := Lib.hid (cursors_any v0 ys 15 n w h0 (by omega) (by omega))
  obtain ⟨A0, c0, rfl, _⟩ := h0
  go_enter Try.func4, Try.ntmps4
  go_wp2_with fail
  refine (KN.out _).mono ?_
  rintro e w' ⟨rfl, rfl⟩
  go_wp2_with fail
  refine HC.out.mono ?_
  rintro e w1 ⟨v1, cs, rfl, ho1, hu1, hl1, hb1⟩
  have HU := Lib.hid hu1
  have HO1 := Lib.hid ho1
  have HB1 := Lib.hid hb1
  obtain ⟨q, hq, KQ⟩ : ∃ q : Nat, (0 < cs.length → q < cs.length) ∧ (0 < cs.length → ∀ W, Calls Try.prog 19 #[.int .i64 turn, .int .i64 (cs.length : Int)] W fun e w' => e = .returned (.int .i64 (q : Int)) ∧ W = w') := by
    rcases Nat.eq_zero_or_pos cs.length with h | h
    · exact ⟨0, fun h' => by omega, fun h' => by omega⟩
    · obtain ⟨q, h1, h2⟩ := pickc_nat turn (cs.length : Int) htu (by omega) (by omega)
      exact ⟨q, fun _ => by omega, fun _ => h2⟩
  have KQ := Lib.hid KQ
  have HPM := Lib.hid (rot_perm cs q hq)
  have HQ := Lib.hid hq
  obtain ⟨A1, c1, rfl, hc11, hc12⟩ := own_slice ho1
  clear ho1 hb1 HC KN hu1 hq
  go_wp2_with fail
  go_loopw [9, 10] (fun vo vi wr => ∃ j : Nat, j ≤ cs.length ∧ vi = .int .i64 j ∧ wr.ownsRow w1.heap.size 46 2 vo j (cellsOf spc (rot cs q j)) ∧ Below w1.heap.size w1 wr) (fun _ vi _ => cs.length - (intOf vi).toNat)
  case atStart => exact ⟨0, Nat.zero_le _, rfl, World.ownsRow_nil _ _ _ _, Below.refl _ _⟩
  case round =>
    obtain ⟨j, hj, rfl, hown, hb⟩ := hrel
    have hbs := hb.size
    obtain ⟨Ao, co, rfl, ho1, ho2⟩ := own_slice hown
    by_cases hlt : j < cs.length
    · have KQ' := Lib.hid (KQ.out (by omega))
      have hqq := HQ.out (by omega)
      have hm : (j + q) % cs.length < cs.length := Nat.mod_lt _ (by omega)
      have hrem : ((j : Int) + (q : Int)).tmod (cs.length : Int) = (((j + q) % cs.length : Nat) : Int) := by
        rw [show (j : Int) + (q : Int) = ((j + q : Nat) : Int) by omega]
        exact (Int.ofNat_tmod _ _).symm
      have HRS : Hid (rot cs q (j + 1) = rot cs q j ++ [cs[(j + q) % cs.length]]) := Lib.hid (by rw [rot_succ, List.getD_eq_getElem?_getD, List.getElem?_eq_getElem hm]; rfl)
      obtain ⟨ga, ca, hva, hga, hgal⟩ := (own_below HO1.out hb).form (by omega)
      injection hva with e1 _ e3
      subst e1
      subst e3
      have x0 := (own_below HO1.out hb).cells (g := ga) rfl ((j + q) % cs.length * 2 + 0) _ ((cellsOf_at spc_len cs _ hm 0 (by decide)).trans rfl)
      have x1 := (own_below HO1.out hb).cells (g := ga) rfl ((j + q) % cs.length * 2 + 1) _ ((cellsOf_at spc_len cs _ hm 1 (by decide)).trans rfl)
      rw [add_head] at x0 x1
      replace x0 : wr.cell? ⟨ga, (j + q) % cs.length * 2, none⟩ = some (.int .i64 (cs[(j + q) % cs.length].lo : Int)) := x0
      replace x1 : wr.cell? ⟨ga, (j + q) % cs.length * 2 + 1, none⟩ = some (.int .i64 (cs[(j + q) % cs.length].hi : Int)) := x1
      generalize cs[(j + q) % cs.length] = c at *
      generalize (j + q) % cs.length = r at *
      have hz : ((cs.length : Int) == 0) = false := by rw [beq_eq_false_iff_ne]; omega
      have hr0 : (0 : Int) ≤ (r : Int) := by omega
      have hr1 : (r : Int) < (cs.length : Int) := by omega
      have HOW := Lib.hid hown
      have HBW := Lib.hid hb
      have hl16 : j + 1 ≤ 16 := by omega
      clear hown hb KQ
      go_wp2_with fail
      refine (KQ'.out _).mono ?_
      rintro e w' ⟨rfl, rfl⟩
      go_wp2_with (at_builtin; go_loud (refine wpList_appN rfl (.tmp 38) (.tmp 51) _ rfl w1.heap.size 46 _ 2 16 Try.underlying43 cur_info rfl (by decide) (.slice Ao j co) j _ rfl HOW.out (spc c) rfl _ rfl (by simp) rfl (spc_one c) (by omega) (by omega) HBW.out.size ?_; intro v8 w8 ho8 hB8 hg8; have HO8 := Lib.hid ho8; have HB8 := Lib.hid (hB8 _ (Nat.le_refl _) _ HBW.out); clear ho8 hB8 hg8))
      refine ⟨⟨j + 1, by omega, by go_num, ?_, HB8.out⟩, by simp [intOf]; omega⟩
      rw [HRS.out, cellsOf_snoc]
      exact HO8.out
    · obtain rfl : j = cs.length := by omega
      have HOT := Lib.hid hown
      have HB2 := Lib.hid hb
      have HO2 := Lib.hid (own_below HO1.out hb)
      have HRL := Lib.hid (Reads.of_own HO2.out)
      have hrl := rot_len cs q cs.length
      have HRT : Hid (wr.ownsRow w1.heap.size 46 2 (.slice Ao cs.length co) (rot cs q cs.length).length (cellsOf spc (rot cs q cs.length))) := Lib.hid (by rw [hrl]; exact hown)
      clear hown hb KQ HOT hrl
      generalize rot cs q cs.length = rt at *
      go_wp2_with (at_builtin; go_loud (refine wpList_copy rfl (.tmp 55) _ rfl 46 _ 2 16 Try.underlying43 cur_info rfl (by decide) A1 cs.length _ (cellsOf spc cs) rfl HRL.out (cellsOf_oneCell spc_one cs) (by omega) (by omega) ?_; intro v3 w3 ho3 hb3; have HO3 := Lib.hid ho3; have HB3 := Lib.hid hb3; clear ho3 hb3))
      refine (norms_any n v3 cs w3 wr.heap.size HO3.out (by omega) (by omega) HU.out).mono ?_
      rintro e w4 ⟨v4, x, rfl, ho4, hx, hb4⟩
      have HX := Lib.hid hx
      have HO4 := Lib.hid ho4
      have HB4 := Lib.hid (bstep (bstep HB2.out HB3.out) hb4)
      have HRT4 := Lib.hid (own_below (own_below HRT.out HB3.out) hb4)
      have HO24 := Lib.hid (own_below (own_below HO2.out HB3.out) hb4)
      have hxl := hx.len.1
      obtain ⟨A4, c4, rfl, hc41, hc42⟩ := own_slice ho4
      have HRX := Lib.hid (Reads.of_own HO4.out)
      clear ho4 hx hb4 HO3 HB3 HRT HRL HO2 HB2
      go_wp2_with (at_builtin; go_loud (refine wpList_copy rfl (.tmp 62) _ rfl 46 _ 2 16 Try.underlying43 cur_info rfl (by decide) A4 x.length _ (cellsOf spc x) rfl HRX.out (cellsOf_oneCell spc_one x) (by omega) (by omega) ?_; intro v5 w5 ho5 hb5; have HO5 := Lib.hid ho5; have HB5 := Lib.hid hb5; clear ho5 hb5))
      have HXU := Lib.hid (HX.out.upto HU.out)
      refine (norms_any n v5 x w5 w4.heap.size HO5.out (by omega) (by omega) HXU.out).mono ?_
      rintro e w6 ⟨v6, y, rfl, ho6, hy, hb6⟩
      obtain rfl : y = x := hy.self HX.out.apt
      have HO6 := Lib.hid ho6
      have HB6 := Lib.hid (bstep (bstep HB4.out HB5.out) hb6)
      have HRT6 := Lib.hid (own_below (own_below HRT4.out HB5.out) hb6)
      have HC6 := Lib.hid (own_below (own_below HO24.out HB5.out) hb6)
      have HX6 := Lib.hid (own_below (own_below HO4.out HB5.out) hb6)
      obtain ⟨A6, c6, rfl, hc61, hc62⟩ := own_slice ho6
      clear ho6 hy hb6 HO5 HB5 HRT4 HO24 HO4 HRX
      have hrl := HPM.out.length_eq
      have HZ := Lib.hid (norms_any n _ rt w6 _ HRT6.out (by omega) (by omega) (fun c hc => HU.out c (HPM.out.mem_iff.1 hc)))
      go_wp2_with fail
      refine HZ.out.mono ?_
      rintro e w7 ⟨v7, z, rfl, ho7, hz, hb7⟩
      have hkey := HX.out.same hz HPM.out.symm
      have hzl : z.length = y.length := by have := congrArg List.length hkey; simpa using this.symm
      have HKEY := Lib.hid hkey
      have HO7 : Hid (w7.ownsRow w6.heap.size 46 2 v7 y.length (cellsOf spc z)) := Lib.hid (by rw [← hzl]; exact ho7)
      have HZL := Lib.hid hzl
      have HB7 := Lib.hid (bstep HB6.out hb7)
      have HC7 := Lib.hid (own_below HC6.out hb7)
      have HX7 := Lib.hid (own_below HX6.out hb7)
      have HY7 := Lib.hid (own_below HO6.out hb7)
      obtain ⟨A7, c7, hv7, hc71, hc72⟩ : ∃ A c, v7 = .slice A y.length c ∧ y.length ≤ c ∧ c ≤ maxLen := own_slice HO7.out
      subst hv7
      clear ho7 hz hb7 hkey hzl HZ HC6 HX6 HO6 HRT6 hrl
      have HLIT := Lib.hid (own_lit w7 46 [⟨1, 2⟩] (show 1 ≤ maxLen by decide))
      have hn1 := norms_any 3 (.slice (some ⟨w7.heap.size, 0, none⟩) 1 1) [⟨1, 2⟩] _ _ HLIT.out (show 1 ≤ 19 by decide) (by omega) (fun c hc => by rw [List.mem_singleton] at hc; subst hc; exact ⟨by decide, by decide⟩)
      have hn1' : Calls Try.prog 21 #[.int .i64 3, .slice (some ⟨w7.heap.size, 0, none⟩) 1 1] (w7.alloc (.cells #[.int .i64 1, .int .i64 2] 46)) (NormsPost [⟨1, 2⟩] (w7.alloc (.cells #[.int .i64 1, .int .i64 2] 46))) := hn1
      have HN1 := Lib.hid hn1'
      clear hn1 hn1'
      have hall := (Below.refl w7.heap.size w7).alloc (Nat.le_refl _) (.cells #[.int .i64 1, .int .i64 2] 46)
      have HALL := Lib.hid hall
      clear hall HLIT
      go_wp2_with fail
      refine HN1.out.mono ?_
      rintro e w8 ⟨v8, o1, rfl, ho8, h1n, hb8⟩
      have hl1 := h1n.one
      obtain ⟨A8, c8, hv8, _, _⟩ := own_slice ho8
      rw [hl1] at hv8
      subst hv8
      have hba := bstep HALL.out hb8
      have HB8 := Lib.hid (bstep HB7.out hba)
      have HC8 := Lib.hid (own_below HC7.out hba)
      have HX8 := Lib.hid (own_below HX7.out hba)
      have HY8 := Lib.hid (own_below HY7.out hba)
      have HZ8 := Lib.hid (own_below HO7.out hba)
      clear ho8 h1n hl1 hba hb8 HN1 HALL HC7 HX7 HY7 HO7 HB7 HB4 HB6
      obtain ⟨zb, hz1, hz2⟩ : ∃ zb : Bool, ((y.length : Int) == 0) = zb ∧ ((cs.length : Int) == 0) = zb := by
        refine ⟨_, rfl, ?_⟩
        rw [Bool.eq_iff_iff, beq_iff_eq, beq_iff_eq]
        have h9 := HX.out.len.2
        rw [← List.length_eq_zero_iff, ← List.length_eq_zero_iff] at h9
        omega
      have hmk : ∀ W : World, (Instr.makeSlice 37 (.int .i64 ((n : Int) + 1)) (.int .i64 ((n : Int) + 1))).run Try.prog W = .ok (.slice (some ⟨W.heap.size, 0, none⟩) (n + 1) (n + 1)) (W.alloc (.cells (madeCells #[.bool false] (n + 1)) 4)) :=
        fun W => run_make_row' (P := Try.prog) 37 4 (.bool false) 1 Try.underlying37 bool_info rfl .i64 .i64 (n + 1) (by omega) (by omega) W
      go_wp2_with fail
      clear hmk hz1 hz2
      have hrow0 := World.rowIs_made w8 (.bool false) (n + 1) 4
      have HBM := Lib.hid ((Below.refl w8.heap.size w8).alloc (Nat.le_refl _) (.cells (madeCells #[.bool false] (n + 1)) 4))
      go_loopw [20, 21] (fun vi vk wr => ∃ i : Nat, i ≤ cs.length ∧ vi = .int .i64 i ∧ wr.rowIs w8.heap.size 4 (n + 1) (fun j => .bool (over (cs.take i) j)) ∧ Below w8.heap.size w8 wr) (fun vi _ _ => cs.length - (intOf vi).toNat)
      case atStart => exact ⟨0, Nat.zero_le _, rfl, hrow0.congr (fun j _ => by simp [over]), HBM.out⟩
      case round =>
        clear hrow0 HBM
        obtain ⟨i, hi, rfl, hrow, hb⟩ := hrel
        by_cases hlt : i < cs.length
        · obtain ⟨ga, ca, hva, hga, hgal⟩ := HC8.out.form (by omega)
          injection hva with e1 _ e3
          subst e1
          subst e3
          have hmn := min_clo cs[i]
          have hmx := max_chi cs[i]
          have hun := HU.out cs[i] (List.getElem_mem hlt)
          have hch := chi_le hun
          have hcc := clo_le cs[i]
          have HOT := Lib.hid (over_take i hlt)
          have c0 := HC8.out.cells (g := ga) rfl (i * 2 + 0) _ ((cellsOf_at spc_len cs i hlt 0 (by decide)).trans rfl)
          have c1 := HC8.out.cells (g := ga) rfl (i * 2 + 1) _ ((cellsOf_at spc_len cs i hlt 1 (by decide)).trans rfl)
          rw [add_head] at c0 c1
          replace c0 : w8.cell? ⟨ga, i * 2, none⟩ = some (.int .i64 (cs[i].lo : Int)) := c0
          replace c1 : w8.cell? ⟨ga, i * 2 + 1, none⟩ = some (.int .i64 (cs[i].hi : Int)) := c1
          have hi0 : (0 : Int) ≤ (i : Int) := by omega
          have hi1 : (i : Int) < (cs.length : Int) := by omega
          generalize clo cs[i] = lo at *
          generalize chi cs[i] = hi' at *
          generalize cs[i].lo = a at *
          generalize cs[i].hi = b at *
          have C0 := Lib.hid c0
          have C1 := Lib.hid c1
          have HROW := Lib.hid hrow
          have HB := Lib.hid hb
          have x0 : wr.cell? ⟨ga, i * 2, none⟩ = some (.int .i64 (a : Int)) := (hb.cell (p := ⟨ga, i * 2, none⟩) hgal).trans c0
          have x1 : wr.cell? ⟨ga, i * 2 + 1, none⟩ = some (.int .i64 (b : Int)) := (hb.cell (p := ⟨ga, i * 2 + 1, none⟩) hgal).trans c1
          clear hrow hb c0 c1
          go_wp2_with fail
          go_quiet (fail)
          go_wp2_with fail
          clear x0 x1
          go_loopw [21] (fun vk wq => ∃ k : Nat, vk = .int .i64 k ∧ lo ≤ k ∧ k ≤ hi' ∧ wq.rowIs w8.heap.size 4 (n + 1) (fun j => .bool (over (cs.take i) j || (decide (lo ≤ j) && decide (j < k)))) ∧ Below w8.heap.size w8 wq) (fun vk _ => hi' - (intOf vk).toNat)
          case atStart =>
            refine ⟨lo, rfl, Nat.le_refl _, by omega, (rowIs_later HROW.out (below_drewN (Below.refl _ _) _)).congr (fun j _ => ?_), below_drewN HB.out _⟩
            have : (decide (lo ≤ j) && decide (j < lo)) = false := by
              rw [Bool.and_eq_false_iff]; simp; omega
            rw [this, Bool.or_false]
          case round =>
            obtain ⟨k, rfl, hk1, hk2, hrow, hb⟩ := hrel
            have x0 : wr.cell? ⟨ga, i * 2, none⟩ = some (.int .i64 (a : Int)) := (hb.cell (p := ⟨ga, i * 2, none⟩) hgal).trans C0.out
            have x1 : wr.cell? ⟨ga, i * 2 + 1, none⟩ = some (.int .i64 (b : Int)) := (hb.cell (p := ⟨ga, i * 2 + 1, none⟩) hgal).trans C1.out
            by_cases hkh : k < hi'
            · have hkd : decide (k < hi') = true := decide_eq_true hkh
              have hk0 : (0 : Int) ≤ (k : Int) := by omega
              have hk3 : (k : Int) < (n : Int) + 1 := by omega
              have HROW2 := Lib.hid hrow
              have HBQ := Lib.hid hb
              clear hrow hb
              go_wp2_with fail
              go_quiet (fail)
              have hrow := rowIs_later HROW2.out (below_drewN (Below.refl _ _) nq)
              have hb := below_drewN HBQ.out nq
              generalize wr.drewN nq = wz at *
              have hcs := hrow.cell (i := k) (by omega)
              have hfs := hrow.frozen k
              have HROW3 := Lib.hid (hrow.set k (.bool true))
              have HBZ := Lib.hid (hb.setCell (p := ⟨w8.heap.size, k, none⟩) (Nat.le_refl _) (.bool true))
              clear hrow hb
              go_wp2_with fail
              refine ⟨⟨k + 1, by go_num, by omega, by omega, HROW3.out.congr (fun j _ => ?_), HBZ.out⟩, by simp [intOf]; omega⟩
              by_cases e : j = k
              · subst e; simp [hk1]
              · have : decide (j < k + 1) = decide (j < k) := by congr 1; rw [eq_iff_iff]; omega
                simp [e, this]
            · obtain rfl : k = hi' := by omega
              have hkd : decide (k < k) = false := by simp
              have HROW2 := Lib.hid hrow
              have HBQ := Lib.hid hb
              clear hrow hb
              go_wp2_with fail
              go_quiet (fail)
              have hrow := rowIs_later HROW2.out (below_drewN (Below.refl _ _) nq)
              have hb := below_drewN HBQ.out nq
              generalize wr.drewN nq = wz at *
              have HROW3 := Lib.hid hrow
              have HBZ := Lib.hid hb
              clear hrow hb
              go_wp2_with fail
              refine ⟨⟨i + 1, by omega, by go_num, HROW3.out.congr (fun j _ => by rw [HOT.out]), HBZ.out⟩, by simp [intOf]; omega⟩
        · obtain rfl : i = cs.length := by omega
          rw [List.take_length] at hrow
          have HROW0 := Lib.hid (hrow.congr (fun j _ => by rw [← HX.out.over_ j] : ∀ j, j < n + 1 → Value.bool (over cs j) = Value.bool (over y j)))
          have HB0 := Lib.hid hb
          clear hrow hb
          go_wp2_with fail
          go_loopw [22, 23, 24, 25] (fun vi _ _ _ wq => ∃ i : Nat, i ≤ y.length ∧ vi = .int .i64 i ∧ wq.rowIs w8.heap.size 4 (n + 1) (fun j => .bool (over (y.drop i) j)) ∧ Below w8.heap.size w8 wq) (fun vi _ _ _ _ => y.length - (intOf vi).toNat)
          case atStart => exact ⟨0, Nat.zero_le _, rfl, HROW0.out, HB0.out⟩
          case round =>
            clear HROW0 HB0
            obtain ⟨i, hi, rfl, hrow, hb⟩ := hrel
            by_cases hlt : i < y.length
            · have hlz : i < z.length := by rw [HZL.out]; exact hlt
              obtain ⟨gx, cagx, hvagx, _, hgalgx⟩ := HX8.out.form (by omega)
              injection hvagx with e1 _ e3
              subst e1
              subst e3
              have c0gx := HX8.out.cells (g := gx) rfl (i * 2 + 0) _ ((cellsOf_at spc_len y i hlt 0 (by decide)).trans rfl)
              have c1gx := HX8.out.cells (g := gx) rfl (i * 2 + 1) _ ((cellsOf_at spc_len y i hlt 1 (by decide)).trans rfl)
              rw [add_head] at c0gx c1gx
              replace c0gx : wr.cell? ⟨gx, i * 2, none⟩ = some (.int .i64 (y[i].lo : Int)) := (hb.cell (p := ⟨gx, i * 2, none⟩) hgalgx).trans c0gx
              replace c1gx : wr.cell? ⟨gx, i * 2 + 1, none⟩ = some (.int .i64 (y[i].hi : Int)) := (hb.cell (p := ⟨gx, i * 2 + 1, none⟩) hgalgx).trans c1gx
              obtain ⟨gy, cagy, hvagy, _, hgalgy⟩ := HY8.out.form (by omega)
              injection hvagy with e1 _ e3
              subst e1
              subst e3
              have c0gy := HY8.out.cells (g := gy) rfl (i * 2 + 0) _ ((cellsOf_at spc_len y i hlt 0 (by decide)).trans rfl)
              have c1gy := HY8.out.cells (g := gy) rfl (i * 2 + 1) _ ((cellsOf_at spc_len y i hlt 1 (by decide)).trans rfl)
              rw [add_head] at c0gy c1gy
              replace c0gy : wr.cell? ⟨gy, i * 2, none⟩ = some (.int .i64 (y[i].lo : Int)) := (hb.cell (p := ⟨gy, i * 2, none⟩) hgalgy).trans c0gy
              replace c1gy : wr.cell? ⟨gy, i * 2 + 1, none⟩ = some (.int .i64 (y[i].hi : Int)) := (hb.cell (p := ⟨gy, i * 2 + 1, none⟩) hgalgy).trans c1gy
              obtain ⟨gz, cagz, hvagz, _, hgalgz⟩ := HZ8.out.form (by omega)
              injection hvagz with e1 _ e3
              subst e1
              subst e3
              have c0gz := HZ8.out.cells (g := gz) rfl (i * 2 + 0) _ ((cellsOf_at spc_len z i hlz 0 (by decide)).trans rfl)
              have c1gz := HZ8.out.cells (g := gz) rfl (i * 2 + 1) _ ((cellsOf_at spc_len z i hlz 1 (by decide)).trans rfl)
              rw [add_head] at c0gz c1gz
              replace c0gz : wr.cell? ⟨gz, i * 2, none⟩ = some (.int .i64 (z[i].lo : Int)) := (hb.cell (p := ⟨gz, i * 2, none⟩) hgalgz).trans c0gz
              replace c1gz : wr.cell? ⟨gz, i * 2 + 1, none⟩ = some (.int .i64 (z[i].hi : Int)) := (hb.cell (p := ⟨gz, i * 2 + 1, none⟩) hgalgz).trans c1gz
              have hk := key_at HKEY.out i hlt hlz
              have hmn := min_clo y[i]
              have hmx := max_chi y[i]
              have hmn2 := min_clo z[i]
              have hmx2 := max_chi z[i]
              rw [hk.1] at hmn2
              rw [hk.2] at hmx2
              have hun := HXU.out y[i] (List.getElem_mem hlt)
              have hch := chi_le hun
              have hcc := clo_le y[i]
              have HOD := Lib.hid (over_drop HX.out.apt i hlt)
              have HOI := Lib.hid (over_in (l := y) i hlt)
              have hi0 : (0 : Int) ≤ (i : Int) := by omega
              have hi1 : (i : Int) < (y.length : Int) := by omega
              have hin : decide (n < chi y[i]) = false := decide_eq_false (by omega)
              have hneg : decide ((clo y[i] : Int) < 0) = false := decide_eq_false (by omega)
              have hpv : ∀ i', i = i' + 1 → ∀ h : i' < y.length, chi y[i'] ≤ clo y[i] := fun i' e h => by subst e; exact apt_prev HX.out.apt i' hlt
              have HPV := Lib.hid hpv
              clear hk hun hpv
              generalize hlo : clo y[i] = lo at *
              generalize hhi : chi y[i] = hi' at *
              generalize y[i].lo = a at *
              generalize y[i].hi = b at *
              generalize z[i].lo = za at *
              generalize z[i].hi = zc at *
              clear hlo hhi
              rcases Nat.eq_zero_or_pos i with h0 | h0
              · have hpos : decide (0 < i) = false := decide_eq_false (by omega)
                clear h0
                have HROW2 := Lib.hid hrow
                have HBQ := Lib.hid hb
                clear hrow hb
                go_wp2_with fail
                go_quiet (fail)
                generalize hnq0 : nq = nq0 at *
                clear hnq0
                go_wp2_with fail
                go_quiet (fail)
                generalize hnq1 : nq = nq1 at *
                clear hnq1
                go_wp2_with fail
                simp only [List.append_eq, List.cons_append, List.nil_append]
                go_quiet (fail)
                clear hpos hin hneg c0gx c1gx c0gy c1gy c0gz c1gz
                have hrow := rowIs_later HROW2.out (below_drewN (below_drewN (below_drewN (Below.refl _ _) nq0) nq1) nq)
                have hb := below_drewN (below_drewN (below_drewN HBQ.out nq0) nq1) nq
                generalize ((wr.drewN nq0).drewN nq1).drewN nq = wz at *
                have HROW3 := Lib.hid hrow
                have HBZ := Lib.hid hb
                clear hrow hb
                go_wp2_with fail
                go_loopw [25] (fun vk wq => ∃ k : Nat, vk = .int .i64 k ∧ lo ≤ k ∧ k ≤ hi' ∧ wq.rowIs w8.heap.size 4 (n + 1) (fun j => .bool (if lo ≤ j ∧ j < k then false else over (y.drop (i)) j)) ∧ Below w8.heap.size w8 wq) (fun vk _ => hi' - (intOf vk).toNat)
                case atStart => exact ⟨lo, rfl, Nat.le_refl _, by omega, HROW3.out.congr (fun j _ => by rw [if_neg (by omega)]), HBZ.out⟩
                case round =>
                  obtain ⟨k, rfl, hk1, hk2, hrow, hb⟩ := hrel
                  by_cases hkh : k < hi'
                  · have hk0 : (0 : Int) ≤ (k : Int) := by omega
                    have hk3 : (k : Int) < (n : Int) + 1 := by omega
                    have hk4 : (k : Int) < (hi' : Int) := by omega
                    have hcs := hrow.cell (i := k) (by omega)
                    rw [if_neg (by omega), HOI.out k hk1 hkh] at hcs
                    have hfs := hrow.frozen k
                    have HROW5 := Lib.hid (hrow.set k (.bool false))
                    have HBZ5 := Lib.hid (hb.setCell (p := ⟨w8.heap.size, k, none⟩) (Nat.le_refl _) (.bool false))
                    clear hrow hb
                    go_wp2_with fail
                    refine ⟨⟨k + 1, by go_num, by omega, by omega, HROW5.out.congr (fun j _ => ?_), HBZ5.out⟩, by simp [intOf]; omega⟩
                    by_cases e : j = k
                    · subst e; rw [if_pos rfl, if_pos (by omega)]
                    · rw [if_neg e]
                      by_cases e2 : lo ≤ j ∧ j < k
                      · rw [if_pos e2, if_pos (by omega)]
                      · rw [if_neg e2, if_neg (by omega)]
                  · obtain rfl : k = hi' := by omega
                    have hk4 : ¬ (k : Int) < (k : Int) := by omega
                    have HROW5 := Lib.hid hrow
                    have HBZ5 := Lib.hid hb
                    clear hrow hb
                    go_wp2_with fail
                    refine ⟨⟨(i) + 1, by omega, by go_num, HROW5.out.congr (fun j _ => by rw [HOD.out]), HBZ5.out⟩, by simp [intOf]; omega⟩
              · obtain ⟨i', rfl⟩ : ∃ i', i = i' + 1 := ⟨i - 1, by omega⟩
                have hli : i' < y.length := by omega
                have hp := HPV.out i' rfl hli
                have d0 := HX8.out.cells (g := gx) rfl (i' * 2 + 0) _ ((cellsOf_at spc_len y i' hli 0 (by decide)).trans rfl)
                have d1 := HX8.out.cells (g := gx) rfl (i' * 2 + 1) _ ((cellsOf_at spc_len y i' hli 1 (by decide)).trans rfl)
                rw [add_head] at d0 d1
                replace d0 : wr.cell? ⟨gx, i' * 2, none⟩ = some (.int .i64 (y[i'].lo : Int)) := (hb.cell (p := ⟨gx, i' * 2, none⟩) hgalgx).trans d0
                replace d1 : wr.cell? ⟨gx, i' * 2 + 1, none⟩ = some (.int .i64 (y[i'].hi : Int)) := (hb.cell (p := ⟨gx, i' * 2 + 1, none⟩) hgalgx).trans d1
                have hmx3 := max_chi y[i']
                generalize chi y[i'] = ph at *
                generalize y[i'].lo = pa at *
                generalize y[i'].hi = pb at *
                have hpd : decide (lo < ph) = false := decide_eq_false (by omega)
                have hj0 : (0 : Int) ≤ (i' : Int) := by omega
                have hj1 : (i' : Int) < (y.length : Int) := by omega
                have hpos : decide ((0 : Int) < (i' : Int) + 1) = true := decide_eq_true (by omega)
                clear h0 HPV hp
                have HROW2 := Lib.hid hrow
                have HBQ := Lib.hid hb
                clear hrow hb
                go_wp2_with fail
                go_quiet (fail)
                generalize hnq0 : nq = nq0 at *
                clear hnq0
                go_wp2_with fail
                go_quiet (fail)
                generalize hnq1 : nq = nq1 at *
                clear hnq1
                go_wp2_with fail
                simp only [List.append_eq, List.cons_append, List.nil_append]
                go_quiet (fail)
                clear hpos hin hneg c0gx c1gx c0gy c1gy c0gz c1gz d0 d1 hpd
                have hrow := rowIs_later HROW2.out (below_drewN (below_drewN (below_drewN (Below.refl _ _) nq0) nq1) nq)
                have hb := below_drewN (below_drewN (below_drewN HBQ.out nq0) nq1) nq
                generalize ((wr.drewN nq0).drewN nq1).drewN nq = wz at *
                have HROW3 := Lib.hid hrow
                have HBZ := Lib.hid hb
                clear hrow hb
                go_wp2_with fail
                go_loopw [25] (fun vk wq => ∃ k : Nat, vk = .int .i64 k ∧ lo ≤ k ∧ k ≤ hi' ∧ wq.rowIs w8.heap.size 4 (n + 1) (fun j => .bool (if lo ≤ j ∧ j < k then false else over (y.drop (i' + 1)) j)) ∧ Below w8.heap.size w8 wq) (fun vk _ => hi' - (intOf vk).toNat)
                case atStart => exact ⟨lo, rfl, Nat.le_refl _, by omega, HROW3.out.congr (fun j _ => by rw [if_neg (by omega)]), HBZ.out⟩
                case round =>
                  obtain ⟨k, rfl, hk1, hk2, hrow, hb⟩ := hrel
                  by_cases hkh : k < hi'
                  · have hk0 : (0 : Int) ≤ (k : Int) := by omega
                    have hk3 : (k : Int) < (n : Int) + 1 := by omega
                    have hk4 : (k : Int) < (hi' : Int) := by omega
                    have hcs := hrow.cell (i := k) (by omega)
                    rw [if_neg (by omega), HOI.out k hk1 hkh] at hcs
                    have hfs := hrow.frozen k
                    have HROW5 := Lib.hid (hrow.set k (.bool false))
                    have HBZ5 := Lib.hid (hb.setCell (p := ⟨w8.heap.size, k, none⟩) (Nat.le_refl _) (.bool false))
                    clear hrow hb
                    go_wp2_with fail
                    refine ⟨⟨k + 1, by go_num, by omega, by omega, HROW5.out.congr (fun j _ => ?_), HBZ5.out⟩, by simp [intOf]; omega⟩
                    by_cases e : j = k
                    · subst e; rw [if_pos rfl, if_pos (by omega)]
                    · rw [if_neg e]
                      by_cases e2 : lo ≤ j ∧ j < k
                      · rw [if_pos e2, if_pos (by omega)]
                      · rw [if_neg e2, if_neg (by omega)]
                  · obtain rfl : k = hi' := by omega
                    have hk4 : ¬ (k : Int) < (k : Int) := by omega
                    have HROW5 := Lib.hid hrow
                    have HBZ5 := Lib.hid hb
                    clear hrow hb
                    go_wp2_with fail
                    refine ⟨⟨(i' + 1) + 1, by omega, by go_num, HROW5.out.congr (fun j _ => by rw [HOD.out]), HBZ5.out⟩, by simp [intOf]; omega⟩
            · obtain rfl : i = y.length := by omega
              rw [List.drop_length] at hrow
              have HROW2 := Lib.hid hrow
              have HBQ := Lib.hid hb
              clear hrow hb
              go_wp2_with fail
              go_loopw [26] (fun vk wq => ∃ k : Nat, vk = .int .i64 k ∧ k ≤ n + 1 ∧ wq = wr) (fun vk _ => n + 1 - (intOf vk).toNat)
              case atStart => exact ⟨0, rfl, Nat.zero_le _, rfl⟩
              case round =>
                obtain ⟨k, rfl, hk, rfl⟩ := hrel
                by_cases hkn : k < n + 1
                · have hcs := HROW2.out.cell (i := k) (by omega)
                  rw [over_nil] at hcs
                  have hk0 : (0 : Int) ≤ (k : Int) := by omega
                  have hk3 : (k : Int) < (n : Int) + 1 := by omega
                  go_wp2_with fail
                  refine ⟨⟨k + 1, by go_num, by omega, by trivial⟩, by simp [intOf]; omega⟩
                · obtain rfl : k = n + 1 := by omega
                  go_wp2_with fail
                  go_ret
                  exact ⟨rfl, HB1.out.trans ((bstep HB8.out HBQ.out).mono HB1.out.size)⟩
end Go.Proofs.Ythemlhkdgaeogaa
