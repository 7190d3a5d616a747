/-
  The walks of the rope's maker: there, fault, length.
-/
import Derived.Test.YtddbhoilhapljaaRopeP
namespace Go.Proofs.Ytddbhoilhapljaa
open Go.RowKit
set_option linter.unusedVariables false

structure Ro where
  k : Nat
  text : ByteArray
  a : Nat
  b : Nat
  at_ : Nat
  n : Nat
def roc (o : Ro) : List Value := [.int .i64 (o.k : Int), .string o.text, .int .i64 (o.a : Int), .int .i64 (o.b : Int), .int .i64 (o.at_ : Int), .int .i64 (o.n : Int)]
theorem roc_len (o : Ro) : (roc o).length = 6 := rfl
theorem roc_one (o : Ro) : ∀ u ∈ roc o, u.oneCell' = true := by intro u hu; simp [roc] at hu; rcases hu with rfl | rfl | rfl | rfl | rfl | rfl <;> rfl
def rov (o : Ro) : Value := .agg #[.int .i64 (o.k : Int), .string o.text, .int .i64 (o.a : Int), .int .i64 (o.b : Int), .int .i64 (o.at_ : Int), .int .i64 (o.n : Int)]
/-- An operation that may be, where so many texts are: their lengths are told. -/
def rok (ls : List Nat) (o : Ro) : Prop := 1 ≤ o.k ∧ o.k ≤ 5 ∧ (o.k ≠ 1 → o.a < ls.length) ∧ (o.k = 2 → o.b < ls.length) ∧ (o.k = 3 ∨ o.k = 4 → o.at_ ≤ ls.getD o.a 0) ∧ (o.k = 5 → o.n ≤ 4) ∧ ls.length < 60 ∧ o.a ≤ 100 ∧ o.b ≤ 100 ∧ o.at_ ≤ 600 ∧ o.n ≤ 100 ∧ o.text.size ≤ 600
theorem ptr_info : (Try.prog.info? 110).map (fun i => (i.zero, i.size, i.bytes)) = some (some (.pointer none), 1, 8) := by kernel_rfl
/-- The maker's block, and the ropes so far. -/
def MK (w : World) (B M : Nat) (v : Value) (vals : List Value) (os : List (Option T)) : Prop :=
  Blk w M 138 #[v] ∧ B ≤ M ∧ w.ownsRow B 110 1 v os.length vals ∧ (∀ (i : Nat) (o : Option T), os[i]? = some o → ∃ u, vals[i]? = some u ∧ RO w u o)
theorem MK.below {w w' : World} {B M : Nat} {v : Value} {vals : List Value} {os : List (Option T)} (h : MK w B M v vals os) (hb : Below w.heap.size w w') : MK w' B M v vals os := by
  obtain ⟨h1, h2, h3, h4⟩ := h
  exact ⟨h1.below hb h1.lt, h2, own_below h3 hb, fun i o ho => by obtain ⟨u, hu, hr⟩ := h4 i o ho; exact ⟨u, hu, hr.below hb⟩⟩
/-- The rope at a place. -/
theorem MK.at_ {w : World} {B M : Nat} {v : Value} {vals : List Value} {os : List (Option T)} (h : MK w B M v vals os) {i : Nat} (hi : i < os.length) :
    ∃ g c p, v = .slice (some ⟨g, 0, none⟩) os.length c ∧ g < w.heap.size ∧ w.cell? ⟨g, i, none⟩ = some (.pointer p) ∧ RO w (.pointer p) os[i] := by
  obtain ⟨h1, h2, h3, h4⟩ := h
  obtain ⟨u, hu, hr⟩ := h4 i os[i] (List.getElem?_eq_getElem hi)
  obtain ⟨p, rfl⟩ := hr.shape
  obtain ⟨g, c, rfl, hg, hgl⟩ := h3.form (by omega)
  refine ⟨g, c, p, rfl, hgl, ?_, hr⟩
  have := h3.cells (g := g) rfl i _ hu
  rwa [add_head] at this
theorem MK.c0 {w : World} {B M : Nat} {v : Value} {vals : List Value} {os : List (Option T)} (h : MK w B M v vals os) : w.cell? ⟨M, 0, none⟩ = some v := by rw [h.1.cell]; rfl
set_option maxRecDepth 100000 in
theorem there_any (B M i : Nat) (v : Value) (vals : List Value) (os : List (Option T)) (w : World) (h : MK w B M v vals os) (hi : i < os.length) :
    Calls Try.prog 106 #[.pointer (some ⟨M, 0, none⟩), .int .i64 (i : Int)] w fun e w' => e = .returned (.bool true) ∧ w = w' := by
  have hc := h.c0
  obtain ⟨A, c, rfl, h1, h2⟩ := own_slice h.2.2.1
  have hM := h.1.lt
  clear h
  have hi0 : (0 : Int) ≤ (i : Int) := Int.natCast_nonneg _
  have hii : (i : Int) < (os.length : Int) := by omega
  go_enter Try.func106, Try.ntmps106
  go_wp2
  go_ret
  exact ⟨rfl, rfl⟩
def olen (o : Option T) : Nat := (otx o).length
set_option maxRecDepth 100000 in
set_option maxHeartbeats 4000000 in
theorem rfault_any (B M : Nat) (v : Value) (vals : List Value) (os : List (Option T)) (o : Ro) (w : World) (h : MK w B M v vals os) (ho : rok (os.map olen) o) :
    Calls Try.prog 97 #[.pointer (some ⟨M, 0, none⟩), rov o] w fun e w' => e = .returned (.int .i64 0) ∧ Below w.heap.size w w' := by
  obtain ⟨ok, tx, ia, ib, iat, ic⟩ := o
  obtain ⟨q1, q2, q3, q4, q5, q6, q7, q8, q9, q10, q11, q12⟩ := ho
  simp only [List.length_map] at q1 q2 q3 q4 q5 q6 q7 q8 q9 q10 q11 q12
  unfold rov
  obtain rfl | rfl | rfl | rfl | rfl : ok = 1 ∨ ok = 2 ∨ ok = 3 ∨ ok = 4 ∨ ok = 5 := by omega
  · have hD := Blk.new w 66 #[.int .i64 1, .string tx, .int .i64 (ia : Int), .int .i64 (ib : Int), .int .i64 (iat : Int), .int .i64 (ic : Int)]
    have hal := (Below.refl w.heap.size w).alloc (Nat.le_refl _) (.cells #[.int .i64 1, .string tx, .int .i64 (ia : Int), .int .i64 (ib : Int), .int .i64 (iat : Int), .int .i64 (ic : Int)] 66)
    have hm1 := h.below hal
    have hc := hm1.c0
    obtain ⟨A, c, rfl, h1, h2⟩ := own_slice hm1.2.2.1
    have hl60 : ((os.length : Int) == 60) = false := by rw [beq_eq_false_iff_ne]; omega
    clear h hm1 q3 q4 q5 q6
    go_enter Try.func97, Try.ntmps97
    go_wp2_with fail
    go_quiet (fail)
    go_wp2_with fail
    go_ret
    exact ⟨rfl, below_drewN hal _⟩
  · have hD := Blk.new w 66 #[.int .i64 2, .string tx, .int .i64 (ia : Int), .int .i64 (ib : Int), .int .i64 (iat : Int), .int .i64 (ic : Int)]
    have hal := (Below.refl w.heap.size w).alloc (Nat.le_refl _) (.cells #[.int .i64 2, .string tx, .int .i64 (ia : Int), .int .i64 (ib : Int), .int .i64 (iat : Int), .int .i64 (ic : Int)] 66)
    have hm1 := h.below hal
    have hc := hm1.c0
    have HM := Lib.hid hm1
    have hia : ia < os.length := q3 (by decide)
    have hib : ib < os.length := q4 rfl
    obtain ⟨A, c, rfl, h1, h2⟩ := own_slice hm1.2.2.1
    have hl60 : ((os.length : Int) == 60) = false := by rw [beq_eq_false_iff_ne]; omega
    clear h hm1 q3 q4 q5 q6
    go_enter Try.func97, Try.ntmps97
    go_wp2_with (go_at_call 106; refine (there_any B M _ _ _ _ _ HM.out (by omega)).mono ?_; rintro e w' ⟨rfl, rfl⟩)
    go_quiet (fail)
    go_wp2_with fail
    go_ret
    exact ⟨rfl, below_drewN hal _⟩
  · have hD := Blk.new w 66 #[.int .i64 3, .string tx, .int .i64 (ia : Int), .int .i64 (ib : Int), .int .i64 (iat : Int), .int .i64 (ic : Int)]
    have hal := (Below.refl w.heap.size w).alloc (Nat.le_refl _) (.cells #[.int .i64 3, .string tx, .int .i64 (ia : Int), .int .i64 (ib : Int), .int .i64 (iat : Int), .int .i64 (ic : Int)] 66)
    have hm1 := h.below hal
    have hc := hm1.c0
    have HM := Lib.hid hm1
    have hia : ia < os.length := q3 (by decide)
    obtain ⟨g, c, p, rfl, hgl, hcp, hro⟩ := hm1.at_ hia
    have HRO := Lib.hid hro
    have hat : iat ≤ olen os[ia] := by
      have h9 := q5 (by decide)
      rw [List.getD_eq_getElem?_getD, List.getElem?_map, List.getElem?_eq_getElem hia] at h9
      exact h9
    have hML := hm1.1.lt
    have hDL := hD.lt
    have d0 : (w.alloc (.cells #[.int .i64 3, .string tx, .int .i64 (ia : Int), .int .i64 (ib : Int), .int .i64 (iat : Int), .int .i64 (ic : Int)] 66)).cell? ⟨w.heap.size, 4, none⟩ = some (.int .i64 (iat : Int)) := by rw [hD.cell]; rfl
    have d1 : (w.alloc (.cells #[.int .i64 3, .string tx, .int .i64 (ia : Int), .int .i64 (ib : Int), .int .i64 (iat : Int), .int .i64 (ic : Int)] 66)).cell? ⟨w.heap.size, 2, none⟩ = some (.int .i64 (ia : Int)) := by rw [hD.cell]; rfl
    have hati : (iat : Int) ≤ (olen os[ia] : Int) := by omega
    have hat0 : (0 : Int) ≤ (iat : Int) := Int.natCast_nonneg _
    have hia0 : (0 : Int) ≤ (ia : Int) := Int.natCast_nonneg _
    have hia1 : (ia : Int) < (os.length : Int) := by omega
    have hl60 : ((os.length : Int) == 60) = false := by rw [beq_eq_false_iff_ne]; omega
    have hd1 : decide ((iat : Int) < 0) = false := by rw [decide_eq_false_iff_not]; omega
    have hd2 : decide ((olen os[ia] : Int) < (iat : Int)) = false := by rw [decide_eq_false_iff_not]; omega
    have HLN := Lib.hid (fun W (h : RO W (.pointer p) os[ia]) => ropeLen_any _ _ W h)
    have hcap : os.length ≤ c ∧ c ≤ maxLen := by
      obtain ⟨A, c', hv, z1, z2⟩ := own_slice hm1.2.2.1
      injection hv with _ _ e3
      subst e3
      exact ⟨z1, z2⟩
    have HOL : Hid ((olen os[ia] : Int) = ((otx os[ia]).length : Int)) := Lib.hid rfl
    clear h hm1 q3 q4 q5 q6 hro
    generalize olen os[ia] = oln at *
    rw [← HOL.out] at HLN
    go_enter Try.func97, Try.ntmps97
    go_wp2_with (go_at_call 106; refine (there_any B M _ _ _ _ _ HM.out (by omega)).mono ?_; rintro e w' ⟨rfl, rfl⟩)
    go_quiet ((go_at_call 86; exact Calls.quiet_of_same ((HLN.out _ (HRO.out.below (below_drewN (Below.refl _ _) _))).mono fun e w' h => ⟨h.1, h.2.symm⟩)))
    go_wp2_with fail
    go_ret
    exact ⟨rfl, below_drewN hal _⟩
  · have hD := Blk.new w 66 #[.int .i64 4, .string tx, .int .i64 (ia : Int), .int .i64 (ib : Int), .int .i64 (iat : Int), .int .i64 (ic : Int)]
    have hal := (Below.refl w.heap.size w).alloc (Nat.le_refl _) (.cells #[.int .i64 4, .string tx, .int .i64 (ia : Int), .int .i64 (ib : Int), .int .i64 (iat : Int), .int .i64 (ic : Int)] 66)
    have hm1 := h.below hal
    have hc := hm1.c0
    have HM := Lib.hid hm1
    have hia : ia < os.length := q3 (by decide)
    obtain ⟨g, c, p, rfl, hgl, hcp, hro⟩ := hm1.at_ hia
    have HRO := Lib.hid hro
    have hat : iat ≤ olen os[ia] := by
      have h9 := q5 (by decide)
      rw [List.getD_eq_getElem?_getD, List.getElem?_map, List.getElem?_eq_getElem hia] at h9
      exact h9
    have hML := hm1.1.lt
    have hDL := hD.lt
    have d0 : (w.alloc (.cells #[.int .i64 4, .string tx, .int .i64 (ia : Int), .int .i64 (ib : Int), .int .i64 (iat : Int), .int .i64 (ic : Int)] 66)).cell? ⟨w.heap.size, 4, none⟩ = some (.int .i64 (iat : Int)) := by rw [hD.cell]; rfl
    have d1 : (w.alloc (.cells #[.int .i64 4, .string tx, .int .i64 (ia : Int), .int .i64 (ib : Int), .int .i64 (iat : Int), .int .i64 (ic : Int)] 66)).cell? ⟨w.heap.size, 2, none⟩ = some (.int .i64 (ia : Int)) := by rw [hD.cell]; rfl
    have hati : (iat : Int) ≤ (olen os[ia] : Int) := by omega
    have hat0 : (0 : Int) ≤ (iat : Int) := Int.natCast_nonneg _
    have hia0 : (0 : Int) ≤ (ia : Int) := Int.natCast_nonneg _
    have hia1 : (ia : Int) < (os.length : Int) := by omega
    have hl60 : ((os.length : Int) == 60) = false := by rw [beq_eq_false_iff_ne]; omega
    have hd1 : decide ((iat : Int) < 0) = false := by rw [decide_eq_false_iff_not]; omega
    have hd2 : decide ((olen os[ia] : Int) < (iat : Int)) = false := by rw [decide_eq_false_iff_not]; omega
    have HLN := Lib.hid (fun W (h : RO W (.pointer p) os[ia]) => ropeLen_any _ _ W h)
    have hcap : os.length ≤ c ∧ c ≤ maxLen := by
      obtain ⟨A, c', hv, z1, z2⟩ := own_slice hm1.2.2.1
      injection hv with _ _ e3
      subst e3
      exact ⟨z1, z2⟩
    have HOL : Hid ((olen os[ia] : Int) = ((otx os[ia]).length : Int)) := Lib.hid rfl
    clear h hm1 q3 q4 q5 q6 hro
    generalize olen os[ia] = oln at *
    rw [← HOL.out] at HLN
    go_enter Try.func97, Try.ntmps97
    go_wp2_with (go_at_call 106; refine (there_any B M _ _ _ _ _ HM.out (by omega)).mono ?_; rintro e w' ⟨rfl, rfl⟩)
    go_quiet ((go_at_call 86; exact Calls.quiet_of_same ((HLN.out _ (HRO.out.below (below_drewN (Below.refl _ _) _))).mono fun e w' h => ⟨h.1, h.2.symm⟩)))
    go_wp2_with fail
    go_ret
    exact ⟨rfl, below_drewN hal _⟩
  · have hD := Blk.new w 66 #[.int .i64 5, .string tx, .int .i64 (ia : Int), .int .i64 (ib : Int), .int .i64 (iat : Int), .int .i64 (ic : Int)]
    have hal := (Below.refl w.heap.size w).alloc (Nat.le_refl _) (.cells #[.int .i64 5, .string tx, .int .i64 (ia : Int), .int .i64 (ib : Int), .int .i64 (iat : Int), .int .i64 (ic : Int)] 66)
    have hm1 := h.below hal
    have hc := hm1.c0
    have HM := Lib.hid hm1
    have hia : ia < os.length := q3 (by decide)
    have hic : (ic : Int) ≤ 4 := by have := q6 rfl; omega
    have hic0 : (0 : Int) ≤ (ic : Int) := Int.natCast_nonneg _
    obtain ⟨A, c, rfl, h1, h2⟩ := own_slice hm1.2.2.1
    have hl60 : ((os.length : Int) == 60) = false := by rw [beq_eq_false_iff_ne]; omega
    clear h hm1 q3 q4 q5 q6
    go_enter Try.func97, Try.ntmps97
    go_wp2_with (go_at_call 106; refine (there_any B M _ _ _ _ _ HM.out (by omega)).mono ?_; rintro e w' ⟨rfl, rfl⟩)
    go_quiet (fail)
    go_wp2_with fail
    go_ret
    exact ⟨rfl, below_drewN hal _⟩
end Go.Proofs.Ytddbhoilhapljaa
