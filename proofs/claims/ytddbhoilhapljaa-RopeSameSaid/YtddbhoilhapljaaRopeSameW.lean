/-
  The walk of RopeSame: at every input it returns true, and nothing that was there is changed.
-/
import Derived.Test.YtddbhoilhapljaaMakes
import Derived.BigQuiet
import Derived.Deep.QuietTactic
namespace Go.Proofs.Ytddbhoilhapljaa
open Go.RowKit
set_option linter.unusedVariables false

set_option maxRecDepth 100000 in
set_option maxHeartbeats 8000000 in
theorem ropeSame_walk (w : World) (v0 : Value) (ms : List Mke) (h0 : Mkes w v0 ms) (a : Int) (hai : -9223372036854775808 ≤ a ∧ a ≤ 9223372036854775807) (b : Int) (hbi : -9223372036854775808 ≤ b ∧ b ≤ 9223372036854775807) :
    Calls Try.prog 12 #[v0, .int .i64 a, .int .i64 b] w fun e w' => e = .returned (.bool true) ∧ Below w.heap.size w w' := by
  have HM := Lib.hid (makes_any v0 ms w h0)
  obtain ⟨A, c, rfl, hl, hc, hw⟩ := h0
  clear hw
  go_enter Try.func12, Try.ntmps12
  go_wp2_with fail
  refine HM.out.mono ?_
  rintro e w1 ⟨v1, os, rfl, ho, hv, hol, hb1⟩
  have hrow := CRow.of_own roc_len ho
  have HRP := Lib.hid (roped_any v1 os w1 hrow (by omega) hv)
  obtain ⟨Ao, co, rfl, hao1, hao2⟩ := own_slice ho
  have HROW := Lib.hid hrow
  have HB1 := Lib.hid hb1
  have HV := Lib.hid hv
  have hsm := runT_small os [] hv (by simp)
  have hcnt := runT_cnt os []
  simp only [List.length_nil, Nat.zero_add] at hcnt
  clear ho hrow hb1 hv HM
  go_wp2_with fail
  refine HRP.out.mono ?_
  rintro e w2 ⟨va, rfl, hva, hb2⟩
  have HB2 := Lib.hid (bstep HB1.out hb2)
  have HROW2 := Lib.hid (HROW.out.later hb2)
  have HVA := Lib.hid hva
  have HMP := Lib.hid (fun v w (h : CRow 6 roc w v os) => measure_any v os w h (by omega) HV.out)
  unfold MeasureP at HMP
  generalize hts : (runT [] os).1 = ts at *
  have HTS := Lib.hid hts
  obtain ⟨Aa, ca, rfl, haa1, haa2⟩ := own_slice hva
  clear hva hb2 HRP hts
  go_wp2_with (at_builtin; go_loud (refine wpList_copyC roc_len roc_one rfl (.tmp 23) _ rfl 66 _ 56 Try.underlying60 op_info rfl (by decide) _ os rfl HROW2.out (by omega) (by omega) ?_; intro v3 w3 ho3 hp3 hb3; have HB3 := Lib.hid (bstep HB2.out hb3); have HP3 := Lib.hid hp3; have hs3 := hb3.size; have HVA3 := Lib.hid (own_below HVA.out hb3); obtain ⟨A3, c3, rfl, hA31, hA32⟩ := own_slice ho3; clear ho3 hp3 hb3))
  refine (HMP.out _ w3 HP3.out).mono ?_
  rintro e w4 ⟨vp, vh, rfl, hvp, hvh, hb4⟩
  have HVA4 := Lib.hid (own_below HVA3.out hb4)
  have HB4 := Lib.hid (bstep HB3.out hb4)
  obtain ⟨Ap, cp, hvpe, hp1, hp2⟩ := own_slice hvp
  obtain ⟨Ah, ch, hvhe, hh1, hh2⟩ := own_slice hvh
  by_cases hz : ts.length = 0
  · subst hvpe
    subst hvhe
    rw [hz] at *
    clear hvp hvh hb4 HMP hsm
    go_wp2_with fail
    go_ret
    exact ⟨rfl, HB4.out⟩
  · have hva4 := HVA4.out
    obtain ⟨ga, ca', hvae, hga, hgal⟩ := hva4.form (by omega)
    obtain ⟨gp, cp', hvp2, hgp, hgpl⟩ := hvp.form (by omega)
    obtain ⟨gh, ch', hvh2, hgh, hghl⟩ := hvh.form (by omega)
    injection hvae with e1 e2 e3
    subst e1
    subst e3
    subst hvp2
    subst hvh2
    clear hvpe hvhe
    obtain ⟨i, hi, KI⟩ := picked_lit a (ts.length : Int) hai (by omega) (by omega)
    obtain ⟨k, hk, KK⟩ := picked_lit b (ts.length : Int) hbi (by omega) (by omega)
    have hin : i < ts.length := by omega
    have hkn : k < ts.length := by omega
    have KI := Lib.hid KI
    have KK := Lib.hid KK
    have xi := hva4.cells (g := ga) rfl i (bytesV ts[i]) (by rw [List.getElem?_map, List.getElem?_eq_getElem hin]; rfl)
    have xk := hva4.cells (g := ga) rfl k (bytesV ts[k]) (by rw [List.getElem?_map, List.getElem?_eq_getElem hkn]; rfl)
    unfold bytesV at xi xk
    have pi0 := hvp.cells (g := gp) rfl (i * 3 + 0) _ ((cellsOf_at posC_len _ i hin 0 (by decide)).trans rfl)
    have pi1 := hvp.cells (g := gp) rfl (i * 3 + 1) _ ((cellsOf_at posC_len _ i hin 1 (by decide)).trans rfl)
    have pi2 := hvp.cells (g := gp) rfl (i * 3 + 2) _ ((cellsOf_at posC_len _ i hin 2 (by decide)).trans rfl)
    have pk0 := hvp.cells (g := gp) rfl (k * 3 + 0) _ ((cellsOf_at posC_len _ k hkn 0 (by decide)).trans rfl)
    have pk1 := hvp.cells (g := gp) rfl (k * 3 + 1) _ ((cellsOf_at posC_len _ k hkn 1 (by decide)).trans rfl)
    have pk2 := hvp.cells (g := gp) rfl (k * 3 + 2) _ ((cellsOf_at posC_len _ k hkn 2 (by decide)).trans rfl)
    have hi0 := hvh.cells (g := gh) rfl (i * 2 + 0) _ ((cellsOf_at hashC_len _ i hin 0 (by decide)).trans rfl)
    have hi1 := hvh.cells (g := gh) rfl (i * 2 + 1) _ ((cellsOf_at hashC_len _ i hin 1 (by decide)).trans rfl)
    have hk0 := hvh.cells (g := gh) rfl (k * 2 + 0) _ ((cellsOf_at hashC_len _ k hkn 0 (by decide)).trans rfl)
    have hk1 := hvh.cells (g := gh) rfl (k * 2 + 1) _ ((cellsOf_at hashC_len _ k hkn 1 (by decide)).trans rfl)
    rw [add_head] at xi xk pi0 pi1 pi2 pk0 pk1 pk2 hi0 hi1 hk0 hk1
    have h6i := hsm ts[i] (List.getElem_mem hin)
    have h6k := hsm ts[k] (List.getElem_mem hkn)
    have hz' : ((ts.length : Int) == 0) = false := by rw [beq_eq_false_iff_ne]; omega
    have hi9 : (0 : Int) ≤ (i : Int) := by omega
    have hk9 : (0 : Int) ≤ (k : Int) := by omega
    clear hvp hvh hb4 HMP hsm hva4
    generalize ts[i] = ti at *
    generalize ts[k] = tk at *
    have POF := Lib.hid (fun W => posOf_any ⟨ti.toArray⟩ W (by simp [ByteArray.size]; omega))
    have hdl : (⟨ti.toArray⟩ : ByteArray).data.toList = ti := by simp
    rw [hdl] at POF
    unfold posv at POF
    generalize hsi : (⟨ti.toArray⟩ : ByteArray) = si at *
    generalize hsk : (⟨tk.toArray⟩ : ByteArray) = sk at *
    have HSI := Lib.hid hsi
    have HSK := Lib.hid hsk
    have LI : Hid (si.size = ti.length) := Lib.hid (by rw [← hsi]; simp [ByteArray.size])
    have LK : Hid (sk.size = tk.length) := Lib.hid (by rw [← hsk]; simp [ByteArray.size])
    clear hsi hsk hdl
    replace pi0 : w4.cell? ⟨gp, i * 3, none⟩ = some (.int .i64 (ti.length : Int)) := pi0
    replace pi1 : w4.cell? ⟨gp, i * 3 + 1, none⟩ = some (.int .i64 (lnsL ti : Int)) := pi1
    replace pi2 : w4.cell? ⟨gp, i * 3 + 2, none⟩ = some (.int .i64 (colL ti : Int)) := pi2
    replace pk0 : w4.cell? ⟨gp, k * 3, none⟩ = some (.int .i64 (tk.length : Int)) := pk0
    replace pk1 : w4.cell? ⟨gp, k * 3 + 1, none⟩ = some (.int .i64 (lnsL tk : Int)) := pk1
    replace pk2 : w4.cell? ⟨gp, k * 3 + 2, none⟩ = some (.int .i64 (colL tk : Int)) := pk2
    replace hi0 : w4.cell? ⟨gh, i * 2, none⟩ = some (.int .i64 (hv ti)) := hi0
    replace hi1 : w4.cell? ⟨gh, i * 2 + 1, none⟩ = some (.int .i64 (hs ti)) := hi1
    replace hk0 : w4.cell? ⟨gh, k * 2, none⟩ = some (.int .i64 (hv tk)) := hk0
    replace hk1 : w4.cell? ⟨gh, k * 2 + 1, none⟩ = some (.int .i64 (hs tk)) := hk1
    have hin1 : (i : Int) < (ts.length : Int) := by omega
    have hkn1 : (k : Int) < (ts.length : Int) := by omega
    go_wp2_with fail
    refine (KI.out _).mono ?_
    rintro e w' ⟨rfl, rfl⟩
    go_wp2_with fail
    refine (KK.out _).mono ?_
    rintro e w' ⟨rfl, rfl⟩
    by_cases hst : ti = tk
    · subst hst
      obtain rfl : sk = si := by rw [← HSI.out, ← HSK.out]
      have hq : (sk.toList == sk.toList) = true := bytes_eq rfl
      go_wp2_with fail
      go_quiet (fail)
      go_wp2_with fail
      go_quiet (fail)
      go_wp2_with fail
      go_ret
      exact ⟨rfl, below_drewN (below_drewN HB4.out _) _⟩
    · have hsn : ¬ si = sk := fun e => hst (by
        have h1 : si.data.toList = ti := by rw [← HSI.out]
        have h2 : sk.data.toList = tk := by rw [← HSK.out]
        rw [← h1, ← h2, e])
      have hq : (si.toList == sk.toList) = false := bytes_ne hsn
      rw [← LI.out] at pi0 POF
      rw [← LK.out] at pk0
      have hlb : ((si.size : Int) == (sk.size : Int)) = true ∨ ((si.size : Int) == (sk.size : Int)) = false := by
        cases (si.size : Int) == (sk.size : Int) <;> simp
      clear hst hsn HSI HSK
      generalize lnsL ti = nl at *
      generalize colL ti = nc at *
      go_wp2_with fail
      go_quiet (fail)
      go_wp2_with fail
      refine wp_region_below (by kernel_rfl) (by kernel_rfl) ?_
      intro ι F hne hF hG
      have xi' : ∀ j, (F j).cell? ⟨ga, i, none⟩ = some (.string si) := fun j => ((hF j).cell (p := ⟨ga, i, none⟩) hgal).trans xi
      have xk' : ∀ j, (F j).cell? ⟨ga, k, none⟩ = some (.string sk) := fun j => ((hF j).cell (p := ⟨ga, k, none⟩) hgal).trans xk
      have a0 : ∀ j, (F j).cell? ⟨gp, i * 3, none⟩ = some (.int .i64 (si.size : Int)) := fun j => ((hF j).cell (p := ⟨gp, i * 3, none⟩) hgpl).trans pi0
      have a1 : ∀ j, (F j).cell? ⟨gp, i * 3 + 1, none⟩ = some (.int .i64 (nl : Int)) := fun j => ((hF j).cell (p := ⟨gp, i * 3 + 1, none⟩) hgpl).trans pi1
      have a2 : ∀ j, (F j).cell? ⟨gp, i * 3 + 2, none⟩ = some (.int .i64 (nc : Int)) := fun j => ((hF j).cell (p := ⟨gp, i * 3 + 2, none⟩) hgpl).trans pi2
      have b0 : ∀ j, (F j).cell? ⟨gp, k * 3, none⟩ = some (.int .i64 (sk.size : Int)) := fun j => ((hF j).cell (p := ⟨gp, k * 3, none⟩) hgpl).trans pk0
      clear xi xk pi0 pi1 pi2 pk0 pk1 pk2 hi0 hi1 hk0 hk1
      rcases hlb with hlb | hlb
      all_goals
        repeat go_big_quiet_step (first | ((with_reducible refine (POF.out _).mono ?_); rintro e w1 ⟨rfl, hb⟩; exact ⟨rfl, hG _ _ hb⟩))
        refine wpQuiet_nil ?_
        intro _ hw'
        obtain ⟨nr, rfl⟩ := hw'
        have hbF := hF nr
        generalize F nr = wz at *
        clear xi' xk' a0 a1 a2 b0 hF hG
        go_wp2_with fail
        go_ret
        exact ⟨rfl, bstep (below_drewN HB4.out _) hbF⟩
end Go.Proofs.Ytddbhoilhapljaa
