/-
  The walk of the rope's maker's make.
-/
import Derived.Test.YtddbhoilhapljaaRopeD
namespace Go.Proofs.Ytddbhoilhapljaa
open Go.RowKit
set_option linter.unusedVariables false

def MakeP (ts : List (List UInt8)) (o : Ro) (w : World) (e : Ending) (w' : World) : Prop := ∃ v o', e = .returned v ∧ RO w' v o' ∧ ook o' ∧ otx o' = rres ts o ∧ Below w.heap.size w w'
set_option maxRecDepth 100000 in
set_option maxHeartbeats 8000000 in
theorem rmake_any (B M : Nat) (v : Value) (vals : List Value) (os : List (Option T)) (o : Ro) (w : World) (h : MK w B M v vals os) (ho : rok (os.map olen) o) (hs : ∀ i (hi : i < os.length), olen os[i] ≤ 600) (hk : ∀ i (hi : i < os.length), ook os[i]) (hl : rlen (os.map olen) o ≤ 600) :
    Calls Try.prog 99 #[.pointer (some ⟨M, 0, none⟩), rov o] w (MakeP (os.map otx) o w) := by
  obtain ⟨ok, tx, ia, ib, iat, ic⟩ := o
  obtain ⟨q1, q2, q3, q4, q5, q6, q7, q8, q9, q10, q11, q12⟩ := ho
  simp only [List.length_map] at q1 q2 q3 q4 q5 q6 q7 q8 q9 q10 q11 q12
  unfold rov
  obtain rfl | rfl | rfl | rfl | rfl : ok = 1 ∨ ok = 2 ∨ ok = 3 ∨ ok = 4 ∨ ok = 5 := by omega
  · have hD := Blk.new w 66 #[.int .i64 1, .string tx, .int .i64 (ia : Int), .int .i64 (ib : Int), .int .i64 (iat : Int), .int .i64 (ic : Int)]
    have hal := (Below.refl w.heap.size w).alloc (Nat.le_refl _) (.cells #[.int .i64 1, .string tx, .int .i64 (ia : Int), .int .i64 (ib : Int), .int .i64 (iat : Int), .int .i64 (ic : Int)] 66)
    have hm1 := h.below hal
    have hDL := hD.lt
    have d1 : (w.alloc (.cells #[.int .i64 1, .string tx, .int .i64 (ia : Int), .int .i64 (ib : Int), .int .i64 (iat : Int), .int .i64 (ic : Int)] 66)).cell? ⟨w.heap.size, 1, none⟩ = some (.string tx) := by rw [hD.cell]; rfl
    have d2 : (w.alloc (.cells #[.int .i64 1, .string tx, .int .i64 (ia : Int), .int .i64 (ib : Int), .int .i64 (iat : Int), .int .i64 (ic : Int)] 66)).cell? ⟨w.heap.size, 2, none⟩ = some (.int .i64 (ia : Int)) := by rw [hD.cell]; rfl
    have d3 : (w.alloc (.cells #[.int .i64 1, .string tx, .int .i64 (ia : Int), .int .i64 (ib : Int), .int .i64 (iat : Int), .int .i64 (ic : Int)] 66)).cell? ⟨w.heap.size, 3, none⟩ = some (.int .i64 (ib : Int)) := by rw [hD.cell]; rfl
    have HN := Lib.hid (fun W => newRope_any tx W q12)
    have HRR : Hid (rres (os.map otx) ⟨1, tx, ia, ib, iat, ic⟩ = tx.data.toList) := Lib.hid rfl
    clear h hm1 q3 q4 q5 q6 hs hk hl
    go_enter Try.func99, Try.ntmps99
    go_wp2_with fail
    refine (HN.out _).mono ?_
    rintro e w2 ⟨v2, o2, rfl, hr2, hk2, ht2, hb2⟩
    obtain ⟨p2, rfl⟩ := hr2.shape
    have H2 := Lib.hid (And.intro hr2 (And.intro hk2 (And.intro ht2 (bstep hal hb2))))
    clear hr2 hk2 ht2 hb2
    go_wp2_with fail
    go_ret
    exact ⟨_, o2, rfl, H2.out.1, H2.out.2.1, by rw [HRR.out]; exact H2.out.2.2.1, H2.out.2.2.2⟩
  · have hD := Blk.new w 66 #[.int .i64 2, .string tx, .int .i64 (ia : Int), .int .i64 (ib : Int), .int .i64 (iat : Int), .int .i64 (ic : Int)]
    have hal := (Below.refl w.heap.size w).alloc (Nat.le_refl _) (.cells #[.int .i64 2, .string tx, .int .i64 (ia : Int), .int .i64 (ib : Int), .int .i64 (iat : Int), .int .i64 (ic : Int)] 66)
    have hm1 := h.below hal
    have hia : ia < os.length := q3 (by decide)
    have hsa := hs ia hia
    have hka := hk ia hia
    have hc := hm1.c0
    obtain ⟨g, c, p, rfl, hgl, hcp, hro⟩ := hm1.at_ hia
    have hcap := hm1.cap
    have hML := hm1.1.lt
    have HRO := Lib.hid hro
    have hia0 : (0 : Int) ≤ (ia : Int) := Int.natCast_nonneg _
    have hia1 : (ia : Int) < (os.length : Int) := by omega
    have HTA := Lib.hid (otx_at (os := os) hia)
    have HOL : Hid (olen os[ia] = (otx os[ia]).length) := Lib.hid rfl
    have hib : ib < os.length := q4 rfl
    have hsb := hs ib hib
    have hkb := hk ib hib
    obtain ⟨g', c', p', hv', hgl', hcp', hro'⟩ := hm1.at_ hib
    injection hv' with e1 _ e3
    injection e1 with e1
    injection e1 with e1
    subst e1
    subst e3
    have HRO' := Lib.hid hro'
    have hib0 : (0 : Int) ≤ (ib : Int) := Int.natCast_nonneg _
    have hib1 : (ib : Int) < (os.length : Int) := by omega
    have HTB := Lib.hid (otx_at (os := os) hib)
    have hll : (otx os[ia]).length + (otx os[ib]).length ≤ 600 := by
      have e : rlen (os.map olen) ⟨2, tx, ia, ib, iat, ic⟩ = (os.map olen).getD ia 0 + (os.map olen).getD ib 0 := rfl
      rw [e, olen_at hia, olen_at hib] at hl; exact hl
    have HRR : Hid (rres (os.map otx) ⟨2, tx, ia, ib, iat, ic⟩ = otx os[ia] ++ otx os[ib]) := Lib.hid (by
      have e : rres (os.map otx) ⟨2, tx, ia, ib, iat, ic⟩ = (os.map otx).getD ia [] ++ (os.map otx).getD ib [] := rfl
      rw [e, otx_at hia, otx_at hib])
    have hDL := hD.lt
    have d1 : (w.alloc (.cells #[.int .i64 2, .string tx, .int .i64 (ia : Int), .int .i64 (ib : Int), .int .i64 (iat : Int), .int .i64 (ic : Int)] 66)).cell? ⟨w.heap.size, 1, none⟩ = some (.string tx) := by rw [hD.cell]; rfl
    have d2 : (w.alloc (.cells #[.int .i64 2, .string tx, .int .i64 (ia : Int), .int .i64 (ib : Int), .int .i64 (iat : Int), .int .i64 (ic : Int)] 66)).cell? ⟨w.heap.size, 2, none⟩ = some (.int .i64 (ia : Int)) := by rw [hD.cell]; rfl
    have d3 : (w.alloc (.cells #[.int .i64 2, .string tx, .int .i64 (ia : Int), .int .i64 (ib : Int), .int .i64 (iat : Int), .int .i64 (ic : Int)] 66)).cell? ⟨w.heap.size, 3, none⟩ = some (.int .i64 (ib : Int)) := by rw [hD.cell]; rfl
    have HJ := Lib.hid (fun W (h1 : RO W (.pointer p) os[ia]) (h2 : RO W (.pointer p') os[ib]) => join_any _ _ _ _ W h1 h2 hka hkb hll)
    clear h hm1 q3 q4 q5 q6 hs hk hl hro hro' hll hsa hsb hka hkb HTA HTB HOL
    go_enter Try.func99, Try.ntmps99
    go_wp2_with fail
    go_quiet (fail)
    go_wp2_with fail
    generalize w.alloc (.cells #[.int .i64 2, .string tx, .int .i64 (ia : Int), .int .i64 (ib : Int), .int .i64 (iat : Int), .int .i64 (ic : Int)] 66) = W at *
    refine wp_region_ph [([0, 1, 2, 3, 4, 5, 6, 7, 8], [9]), ([10], [])] (fun w' => Below W.heap.size W w') (by kernel_rfl) (by kernel_rfl) (fun _ _ h1 h2 => bstep h1 h2) (by repeat' (first | exact Below.refl _ _ | apply below_drewN)) ?_
    intro ι F hne hF W0 hW0 hI0
    have s1F : ∀ i, (F i).cell? ⟨M, 0, none⟩ = some (.slice (some ⟨g, 0, none⟩) os.length c) := fun i => ((hF i).cell (p := ⟨M, 0, none⟩) hML).trans hc
    have s2F : ∀ i, (F i).cell? ⟨w.heap.size, 3, none⟩ = some (.int .i64 (ib : Int)) := fun i => ((hF i).cell (p := ⟨w.heap.size, 3, none⟩) hDL).trans d3
    have s3F : ∀ i, (F i).cell? ⟨g, ib, none⟩ = some (.pointer p') := fun i => ((hF i).cell (p := ⟨g, ib, none⟩) hgl').trans hcp'
    clear hc d1 d2 d3 hcp hcp'
    (refine wpPh_cons ?_; simp only [pickOps, List.getElem?_cons_succ, List.getElem?_cons_zero])
    repeat (refine wpB_step (fun K hK => ?_); go_simp; first | (refine hK _ ?_; clear hK K) | (apply Exists.intro; refine ⟨fun _ => ?_, hK _ ?_⟩; (fail); clear hK K))
    refine wpB_nil ?_
    intro w3 hw3 hI3
    clear s1F s2F s3F
    refine wpRB_step (fun K hK => ?_)
    go_simp
    refine (HJ.out w3 (HRO.out.below hI3) (HRO'.out.below hI3)).mono ?_
    rintro e w4 ⟨v4, o4, rfl, hr4, hk4, ht4, hb4⟩
    obtain ⟨p4, rfl⟩ := hr4.shape
    refine ⟨_, rfl, hK _ _ ⟨bstep hI3 hb4, ?_⟩⟩
    clear hK K
    intro w5 hw5 hI5
    have hr5 := hr4.below hw5
    clear hr4 hb4 hw5 hw3 hI3
    refine wpRB_nil ?_
    (refine wpPh_cons ?_; simp only [pickOps, List.getElem?_cons_succ, List.getElem?_cons_zero])
    repeat (refine wpB_step (fun K hK => ?_); go_simp; first | (refine hK _ ?_; clear hK K) | (apply Exists.intro; refine ⟨fun _ => ?_, hK _ ?_⟩; (fail); clear hK K))
    refine wpB_nil ?_
    intro w10 hw10 hI10
    have H10 := Lib.hid (And.intro (hr5.below hw10) (And.intro hk4 (And.intro ht4 (hal.trans (hI10.mono hal.size)))))
    clear hr5 hw10 hI5 hk4 ht4
    refine wpRB_nil ?_
    refine wpPh_nil ?_
    clear hF hne F hI0 hW0 hI10
    go_wp2_with fail
    go_ret
    exact ⟨_, o4, rfl, H10.out.1, H10.out.2.1, by rw [HRR.out]; exact H10.out.2.2.1, H10.out.2.2.2⟩
  · have hD := Blk.new w 66 #[.int .i64 3, .string tx, .int .i64 (ia : Int), .int .i64 (ib : Int), .int .i64 (iat : Int), .int .i64 (ic : Int)]
    have hal := (Below.refl w.heap.size w).alloc (Nat.le_refl _) (.cells #[.int .i64 3, .string tx, .int .i64 (ia : Int), .int .i64 (ib : Int), .int .i64 (iat : Int), .int .i64 (ic : Int)] 66)
    have hm1 := h.below hal
    have hia : ia < os.length := q3 (by decide)
    have hsa := hs ia hia
    have hka := hk ia hia
    have hc := hm1.c0
    obtain ⟨g, c, p, rfl, hgl, hcp, hro⟩ := hm1.at_ hia
    have hcap := hm1.cap
    have hML := hm1.1.lt
    have HRO := Lib.hid hro
    have hia0 : (0 : Int) ≤ (ia : Int) := Int.natCast_nonneg _
    have hia1 : (ia : Int) < (os.length : Int) := by omega
    have HTA := Lib.hid (otx_at (os := os) hia)
    have HOL : Hid (olen os[ia] = (otx os[ia]).length) := Lib.hid rfl
    have hat : iat ≤ olen os[ia] := by
      have h9 := q5 (by decide)
      rw [olen_at hia] at h9
      exact h9
    have hat6 : iat ≤ 600 := by omega
    have HRR : Hid (rres (os.map otx) ⟨3, tx, ia, ib, iat, ic⟩ = (otx os[ia]).take iat) := Lib.hid (by
      rw [← otx_at hia]; rfl)
    have hDL := hD.lt
    have d1 : (w.alloc (.cells #[.int .i64 3, .string tx, .int .i64 (ia : Int), .int .i64 (ib : Int), .int .i64 (iat : Int), .int .i64 (ic : Int)] 66)).cell? ⟨w.heap.size, 1, none⟩ = some (.string tx) := by rw [hD.cell]; rfl
    have d2 : (w.alloc (.cells #[.int .i64 3, .string tx, .int .i64 (ia : Int), .int .i64 (ib : Int), .int .i64 (iat : Int), .int .i64 (ic : Int)] 66)).cell? ⟨w.heap.size, 2, none⟩ = some (.int .i64 (ia : Int)) := by rw [hD.cell]; rfl
    have d3 : (w.alloc (.cells #[.int .i64 3, .string tx, .int .i64 (ia : Int), .int .i64 (ib : Int), .int .i64 (iat : Int), .int .i64 (ic : Int)] 66)).cell? ⟨w.heap.size, 3, none⟩ = some (.int .i64 (ib : Int)) := by rw [hD.cell]; rfl
    have d4 : (w.alloc (.cells #[.int .i64 3, .string tx, .int .i64 (ia : Int), .int .i64 (ib : Int), .int .i64 (iat : Int), .int .i64 (ic : Int)] 66)).cell? ⟨w.heap.size, 4, none⟩ = some (.int .i64 (iat : Int)) := by rw [hD.cell]; rfl
    have HS := Lib.hid (fun W (h : RO W (.pointer p) os[ia]) => split_any _ _ iat W h hka (by rw [← HOL.out]; exact hsa) hat6 (fun e => by rw [e] at hat; simpa [olen, otx] using hat))
    clear h hm1 q3 q4 q5 q6 hs hk hl hro hsa hka hat HTA HOL
    go_enter Try.func99, Try.ntmps99
    go_wp2_with fail
    go_quiet (fail)
    go_wp2_with fail
    refine (HS.out _ (HRO.out.below (below_drewN (Below.refl _ _) _))).mono ?_
    rintro e w2 ⟨v1, v2, o1, o2, rfl, hr1, hr2, hk1, hk2, ht1, ht2, hb2⟩
    obtain ⟨p1, rfl⟩ := hr1.shape
    obtain ⟨p2, rfl⟩ := hr2.shape
    have hb3 := bstep (below_drewN (Below.refl (w.alloc (.cells #[.int .i64 3, .string tx, .int .i64 (ia : Int), .int .i64 (ib : Int), .int .i64 (iat : Int), .int .i64 (ic : Int)] 66)).heap.size _) _) hb2
    have z0 : w2.cell? ⟨w.heap.size, 0, none⟩ = some (.int .i64 3) := by rw [(hD.below hb3 hD.lt).cell]; rfl
    have H2 := Lib.hid (And.intro hr1 (And.intro hk1 (And.intro ht1 (hal.trans (hb3.mono hal.size)))))
    clear hr1 hr2 hk1 hk2 ht1 ht2 hb2 hb3 HS
    go_wp2_with fail
    go_ret
    exact ⟨_, o1, rfl, H2.out.1, H2.out.2.1, by rw [HRR.out]; exact H2.out.2.2.1, H2.out.2.2.2⟩
  · have hD := Blk.new w 66 #[.int .i64 4, .string tx, .int .i64 (ia : Int), .int .i64 (ib : Int), .int .i64 (iat : Int), .int .i64 (ic : Int)]
    have hal := (Below.refl w.heap.size w).alloc (Nat.le_refl _) (.cells #[.int .i64 4, .string tx, .int .i64 (ia : Int), .int .i64 (ib : Int), .int .i64 (iat : Int), .int .i64 (ic : Int)] 66)
    have hm1 := h.below hal
    have hia : ia < os.length := q3 (by decide)
    have hsa := hs ia hia
    have hka := hk ia hia
    have hc := hm1.c0
    obtain ⟨g, c, p, rfl, hgl, hcp, hro⟩ := hm1.at_ hia
    have hcap := hm1.cap
    have hML := hm1.1.lt
    have HRO := Lib.hid hro
    have hia0 : (0 : Int) ≤ (ia : Int) := Int.natCast_nonneg _
    have hia1 : (ia : Int) < (os.length : Int) := by omega
    have HTA := Lib.hid (otx_at (os := os) hia)
    have HOL : Hid (olen os[ia] = (otx os[ia]).length) := Lib.hid rfl
    have hat : iat ≤ olen os[ia] := by
      have h9 := q5 (by decide)
      rw [olen_at hia] at h9
      exact h9
    have hat6 : iat ≤ 600 := by omega
    have HRR : Hid (rres (os.map otx) ⟨4, tx, ia, ib, iat, ic⟩ = (otx os[ia]).drop iat) := Lib.hid (by
      rw [← otx_at hia]; rfl)
    have hDL := hD.lt
    have d1 : (w.alloc (.cells #[.int .i64 4, .string tx, .int .i64 (ia : Int), .int .i64 (ib : Int), .int .i64 (iat : Int), .int .i64 (ic : Int)] 66)).cell? ⟨w.heap.size, 1, none⟩ = some (.string tx) := by rw [hD.cell]; rfl
    have d2 : (w.alloc (.cells #[.int .i64 4, .string tx, .int .i64 (ia : Int), .int .i64 (ib : Int), .int .i64 (iat : Int), .int .i64 (ic : Int)] 66)).cell? ⟨w.heap.size, 2, none⟩ = some (.int .i64 (ia : Int)) := by rw [hD.cell]; rfl
    have d3 : (w.alloc (.cells #[.int .i64 4, .string tx, .int .i64 (ia : Int), .int .i64 (ib : Int), .int .i64 (iat : Int), .int .i64 (ic : Int)] 66)).cell? ⟨w.heap.size, 3, none⟩ = some (.int .i64 (ib : Int)) := by rw [hD.cell]; rfl
    have d4 : (w.alloc (.cells #[.int .i64 4, .string tx, .int .i64 (ia : Int), .int .i64 (ib : Int), .int .i64 (iat : Int), .int .i64 (ic : Int)] 66)).cell? ⟨w.heap.size, 4, none⟩ = some (.int .i64 (iat : Int)) := by rw [hD.cell]; rfl
    have HS := Lib.hid (fun W (h : RO W (.pointer p) os[ia]) => split_any _ _ iat W h hka (by rw [← HOL.out]; exact hsa) hat6 (fun e => by rw [e] at hat; simpa [olen, otx] using hat))
    clear h hm1 q3 q4 q5 q6 hs hk hl hro hsa hka hat HTA HOL
    go_enter Try.func99, Try.ntmps99
    go_wp2_with fail
    go_quiet (fail)
    go_wp2_with fail
    refine (HS.out _ (HRO.out.below (below_drewN (Below.refl _ _) _))).mono ?_
    rintro e w2 ⟨v1, v2, o1, o2, rfl, hr1, hr2, hk1, hk2, ht1, ht2, hb2⟩
    obtain ⟨p1, rfl⟩ := hr1.shape
    obtain ⟨p2, rfl⟩ := hr2.shape
    have hb3 := bstep (below_drewN (Below.refl (w.alloc (.cells #[.int .i64 4, .string tx, .int .i64 (ia : Int), .int .i64 (ib : Int), .int .i64 (iat : Int), .int .i64 (ic : Int)] 66)).heap.size _) _) hb2
    have z0 : w2.cell? ⟨w.heap.size, 0, none⟩ = some (.int .i64 4) := by rw [(hD.below hb3 hD.lt).cell]; rfl
    have H2 := Lib.hid (And.intro hr2 (And.intro hk2 (And.intro ht2 (hal.trans (hb3.mono hal.size)))))
    clear hr1 hr2 hk1 hk2 ht1 ht2 hb2 hb3 HS
    go_wp2_with fail
    go_ret
    exact ⟨_, o2, rfl, H2.out.1, H2.out.2.1, by rw [HRR.out]; exact H2.out.2.2.1, H2.out.2.2.2⟩
  · show Calls Try.prog 99 #[.pointer (some ⟨M, 0, none⟩), .agg #[.int .i64 5, .string tx, .int .i64 (ia : Int), .int .i64 (ib : Int), .int .i64 (iat : Int), .int .i64 (ic : Int)]] w _
    have hD := Blk.new w 66 #[.int .i64 5, .string tx, .int .i64 (ia : Int), .int .i64 (ib : Int), .int .i64 (iat : Int), .int .i64 (ic : Int)]
    have hal := (Below.refl w.heap.size w).alloc (Nat.le_refl _) (.cells #[.int .i64 5, .string tx, .int .i64 (ia : Int), .int .i64 (ib : Int), .int .i64 (iat : Int), .int .i64 (ic : Int)] 66)
    have hm1 := h.below hal
    have hia : ia < os.length := q3 (by decide)
    have hsa := hs ia hia
    have hka := hk ia hia
    have hc := hm1.c0
    obtain ⟨g, c, p, rfl, hgl, hcp, hro⟩ := hm1.at_ hia
    have hcap := hm1.cap
    have hML := hm1.1.lt
    have HRO := Lib.hid hro
    have hia0 : (0 : Int) ≤ (ia : Int) := Int.natCast_nonneg _
    have hia1 : (ia : Int) < (os.length : Int) := by omega
    have HTA := Lib.hid (otx_at (os := os) hia)
    have HOL : Hid (olen os[ia] = (otx os[ia]).length) := Lib.hid rfl
    have hic := q6 rfl
    have hll : (otx os[ia]).length * ic ≤ 600 := by
      have e : rlen (os.map olen) ⟨5, tx, ia, ib, iat, ic⟩ = (os.map olen).getD ia 0 * ic := rfl
      rw [e, olen_at hia] at hl; exact hl
    have HRR : Hid (rres (os.map otx) ⟨5, tx, ia, ib, iat, ic⟩ = (List.replicate ic (otx os[ia])).flatten) := Lib.hid (by
      have e : rres (os.map otx) ⟨5, tx, ia, ib, iat, ic⟩ = (List.replicate ic ((os.map otx).getD ia [])).flatten := rfl
      rw [e, otx_at hia])
    have hDL := hD.lt
    have d1 : (w.alloc (.cells #[.int .i64 5, .string tx, .int .i64 (ia : Int), .int .i64 (ib : Int), .int .i64 (iat : Int), .int .i64 (ic : Int)] 66)).cell? ⟨w.heap.size, 1, none⟩ = some (.string tx) := by rw [hD.cell]; rfl
    have d2 : (w.alloc (.cells #[.int .i64 5, .string tx, .int .i64 (ia : Int), .int .i64 (ib : Int), .int .i64 (iat : Int), .int .i64 (ic : Int)] 66)).cell? ⟨w.heap.size, 2, none⟩ = some (.int .i64 (ia : Int)) := by rw [hD.cell]; rfl
    have d3 : (w.alloc (.cells #[.int .i64 5, .string tx, .int .i64 (ia : Int), .int .i64 (ib : Int), .int .i64 (iat : Int), .int .i64 (ic : Int)] 66)).cell? ⟨w.heap.size, 3, none⟩ = some (.int .i64 (ib : Int)) := by rw [hD.cell]; rfl
    have d5 : (w.alloc (.cells #[.int .i64 5, .string tx, .int .i64 (ia : Int), .int .i64 (ib : Int), .int .i64 (iat : Int), .int .i64 (ic : Int)] 66)).cell? ⟨w.heap.size, 5, none⟩ = some (.int .i64 (ic : Int)) := by rw [hD.cell]; rfl
    have HKA := Lib.hid hka
    have HLL := Lib.hid hll
    clear h hm1 q3 q4 q5 q6 hs hk hl hro hll hsa hka HTA HOL
    go_enter Try.func99, Try.ntmps99
    go_wp2_with fail
    go_quiet (fail)
    go_wp2_with fail
    generalize hWW : w.alloc (.cells #[.int .i64 5, .string tx, .int .i64 (ia : Int), .int .i64 (ib : Int), .int .i64 (iat : Int), .int .i64 (ic : Int)] 66) = W at *
    have HWW := Lib.hid hWW
    have hb0 : Below W.heap.size W (W.drewN nq) := below_drewN (Below.refl _ _) _
    clear hWW hc d1 d2 d3 d5 hcp
    go_loopw [6, 41] (fun u i wr => ∃ (k : Nat) (o' : Option T), k ≤ ic ∧ i = .int .i64 k ∧ RO wr u o' ∧ ook o' ∧ otx o' = (List.replicate k (otx os[ia])).flatten ∧ Below W.heap.size W wr) (fun _ i _ => ic - (intOf i).toNat)
    case atStart => exact ⟨0, none, Nat.zero_le _, rfl, rfl, trivial, rfl, hb0⟩
    case round =>
      clear hb0
      obtain ⟨k, o', hk, rfl, hr, hok, htx, hb⟩ := hrel
      obtain ⟨p', rfl⟩ := hr.shape
      by_cases hlt : k < ic
      · have hlen : (otx o').length + (otx os[ia]).length ≤ 600 := by
          rw [htx, List.length_flatten, List.map_replicate, List.sum_replicate_nat]
          have h2 := HLL.out
          have h3 : (k + 1) * (otx os[ia]).length ≤ ic * (otx os[ia]).length := Nat.mul_le_mul_right _ hlt
          rw [Nat.mul_comm] at h2
          rw [Nat.succ_mul] at h3
          omega
        have HJ := Lib.hid (join_any _ _ _ _ wr hr (HRO.out.below hb) hok HKA.out hlen)
        have HB := Lib.hid hb
        have HT := Lib.hid htx
        have hki : (k : Int) < (ic : Int) := by omega
        clear hr hok htx hb hlen
        go_wp2_with fail
        refine HJ.out.mono ?_
        rintro e w4 ⟨v4, o4, rfl, hr4, hk4, ht4, hb4⟩
        obtain ⟨p4, rfl⟩ := hr4.shape
        have H4 := Lib.hid (And.intro hr4 (And.intro hk4 (And.intro ht4 (bstep HB.out hb4))))
        clear hr4 hk4 ht4 hb4 HJ HB
        go_wp2_with fail
        go_roundw
        case rel => exact ⟨k + 1, o4, by omega, by go_num, H4.out.1, H4.out.2.1, by rw [H4.out.2.2.1, HT.out, List.replicate_succ', List.flatten_append]; simp, H4.out.2.2.2⟩
        case measure => simp [intOf]; omega
      · obtain rfl : k = ic := by omega
        have H4 := Lib.hid (And.intro hr (And.intro hok (And.intro htx (hal.trans (hb.mono hal.size)))))
        clear hr hok htx hb
        go_wp2_with fail
        go_ret
        exact ⟨_, o', rfl, H4.out.1, H4.out.2.1, by rw [HRR.out]; exact H4.out.2.2.1, H4.out.2.2.2⟩
end Go.Proofs.Ytddbhoilhapljaa
