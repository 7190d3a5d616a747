/-
  The walks of the rope's maker: length and make.
-/
import Derived.Test.YtddbhoilhapljaaRopeM
namespace Go.Proofs.Ytddbhoilhapljaa
open Go.RowKit
set_option linter.unusedVariables false

def rlen (ls : List Nat) (o : Ro) : Nat := if o.k = 1 then o.text.size else if o.k = 2 then ls.getD o.a 0 + ls.getD o.b 0 else if o.k = 5 then ls.getD o.a 0 * o.n else 0
def rres (ts : List (List UInt8)) (o : Ro) : List UInt8 :=
  if o.k = 1 then o.text.data.toList else if o.k = 2 then ts.getD o.a [] ++ ts.getD o.b [] else if o.k = 3 then (ts.getD o.a []).take o.at_ else if o.k = 4 then (ts.getD o.a []).drop o.at_ else (List.replicate o.n (ts.getD o.a [])).flatten
theorem olen_at {os : List (Option T)} {i : Nat} (hi : i < os.length) : (os.map olen).getD i 0 = olen os[i] := by
  rw [List.getD_eq_getElem?_getD, List.getElem?_map, List.getElem?_eq_getElem hi]; rfl
theorem otx_at {os : List (Option T)} {i : Nat} (hi : i < os.length) : (os.map otx).getD i [] = otx os[i] := by
  rw [List.getD_eq_getElem?_getD, List.getElem?_map, List.getElem?_eq_getElem hi]; rfl
theorem MK.cap {w : World} {B M : Nat} {g n c : Nat} {vals : List Value} {os : List (Option T)} (h : MK w B M (.slice (some ⟨g, 0, none⟩) n c) vals os) : os.length ≤ c ∧ c ≤ maxLen := by
  obtain ⟨A, c', hv, z1, z2⟩ := own_slice h.2.2.1
  injection hv with _ _ e3
  subst e3
  exact ⟨z1, z2⟩
set_option maxRecDepth 100000 in
set_option maxHeartbeats 4000000 in
theorem rlength_any (B M : Nat) (v : Value) (vals : List Value) (os : List (Option T)) (o : Ro) (w : World) (h : MK w B M v vals os) (ho : rok (os.map olen) o) (hs : ∀ i (hi : i < os.length), olen os[i] ≤ 600) :
    Calls Try.prog 98 #[.pointer (some ⟨M, 0, none⟩), rov o] w fun e w' => e = .returned (.int .i64 (rlen (os.map olen) o : Int)) ∧ Below w.heap.size w w' := by
  obtain ⟨ok, tx, ia, ib, iat, ic⟩ := o
  obtain ⟨q1, q2, q3, q4, q5, q6, q7, q8, q9, q10, q11, q12⟩ := ho
  simp only [List.length_map] at q1 q2 q3 q4 q5 q6 q7 q8 q9 q10 q11 q12
  unfold rov
  obtain rfl | rfl | rfl | rfl | rfl : ok = 1 ∨ ok = 2 ∨ ok = 3 ∨ ok = 4 ∨ ok = 5 := by omega
  · have hD := Blk.new w 66 #[.int .i64 1, .string tx, .int .i64 (ia : Int), .int .i64 (ib : Int), .int .i64 (iat : Int), .int .i64 (ic : Int)]
    have hal := (Below.refl w.heap.size w).alloc (Nat.le_refl _) (.cells #[.int .i64 1, .string tx, .int .i64 (ia : Int), .int .i64 (ib : Int), .int .i64 (iat : Int), .int .i64 (ic : Int)] 66)
    have hm1 := h.below hal
    have HRL : Hid ((rlen (os.map olen) ⟨1, tx, ia, ib, iat, ic⟩ : Int) = (tx.size : Int)) := Lib.hid rfl
    clear h hm1 q3 q4 q5 q6 hs
    go_enter Try.func98, Try.ntmps98
    go_wp2_with fail
    go_ret
    exact ⟨ret_int HRL.out.symm, hal⟩
  · have hD := Blk.new w 66 #[.int .i64 2, .string tx, .int .i64 (ia : Int), .int .i64 (ib : Int), .int .i64 (iat : Int), .int .i64 (ic : Int)]
    have hal := (Below.refl w.heap.size w).alloc (Nat.le_refl _) (.cells #[.int .i64 2, .string tx, .int .i64 (ia : Int), .int .i64 (ib : Int), .int .i64 (iat : Int), .int .i64 (ic : Int)] 66)
    have hm1 := h.below hal
    have hia : ia < os.length := q3 (by decide)
    have hib : ib < os.length := q4 rfl
    have hsa := hs ia hia
    have hsb := hs ib hib
    have HRL : Hid ((rlen (os.map olen) ⟨2, tx, ia, ib, iat, ic⟩ : Int) = (olen os[ia] : Int) + (olen os[ib] : Int)) := Lib.hid (by
      have e : rlen (os.map olen) ⟨2, tx, ia, ib, iat, ic⟩ = (os.map olen).getD ia 0 + (os.map olen).getD ib 0 := rfl
      rw [e, olen_at hia, olen_at hib]; omega)
    have hc := hm1.c0
    obtain ⟨g, c, p, rfl, hgl, hcp, hro⟩ := hm1.at_ hia
    obtain ⟨g', c', p', hv', hgl', hcp', hro'⟩ := hm1.at_ hib
    injection hv' with e1 _ e3
    injection e1 with e1
    injection e1 with e1
    subst e1
    subst e3
    have hcap := hm1.cap
    have hML := hm1.1.lt
    have HRO := Lib.hid hro
    have HRO' := Lib.hid hro'
    have HA := Lib.hid (fun W (h : RO W (.pointer p) os[ia]) => ropeLen_any _ _ W h)
    have HB := Lib.hid (fun W (h : RO W (.pointer p') os[ib]) => ropeLen_any _ _ W h)
    have HOA : Hid ((olen os[ia] : Int) = ((otx os[ia]).length : Int)) := Lib.hid rfl
    have HOB : Hid ((olen os[ib] : Int) = ((otx os[ib]).length : Int)) := Lib.hid rfl
    have hia0 : (0 : Int) ≤ (ia : Int) := Int.natCast_nonneg _
    have hia1 : (ia : Int) < (os.length : Int) := by omega
    have hib0 : (0 : Int) ≤ (ib : Int) := Int.natCast_nonneg _
    have hib1 : (ib : Int) < (os.length : Int) := by omega
    have hDL := hD.lt
    have d2 : (w.alloc (.cells #[.int .i64 2, .string tx, .int .i64 (ia : Int), .int .i64 (ib : Int), .int .i64 (iat : Int), .int .i64 (ic : Int)] 66)).cell? ⟨w.heap.size, 2, none⟩ = some (.int .i64 (ia : Int)) := by rw [hD.cell]; rfl
    have d3 : (w.alloc (.cells #[.int .i64 2, .string tx, .int .i64 (ia : Int), .int .i64 (ib : Int), .int .i64 (iat : Int), .int .i64 (ic : Int)] 66)).cell? ⟨w.heap.size, 3, none⟩ = some (.int .i64 (ib : Int)) := by rw [hD.cell]; rfl
    have d5 : (w.alloc (.cells #[.int .i64 2, .string tx, .int .i64 (ia : Int), .int .i64 (ib : Int), .int .i64 (iat : Int), .int .i64 (ic : Int)] 66)).cell? ⟨w.heap.size, 5, none⟩ = some (.int .i64 (ic : Int)) := by rw [hD.cell]; rfl
    rw [← HOA.out] at HA
    rw [← HOB.out] at HB
    clear h hm1 q3 q4 q5 q6 hs hro hro'
    generalize olen os[ia] = la at *
    generalize olen os[ib] = lb at *
    have hadd : IntKind.i64.wrap ((la : Int) + (lb : Int)) = (la : Int) + (lb : Int) := IntWalk.i64_in _ (by omega)
    go_enter Try.func98, Try.ntmps98
    go_wp2_with fail
    go_quiet ((first | (go_at_call 86; with_reducible exact Calls.quiet_of_same ((HA.out _ (HRO.out.below (below_drewN (Below.refl _ _) _))).mono fun e w' h => ⟨h.1, h.2.symm⟩)) | (go_at_call 86; with_reducible exact Calls.quiet_of_same ((HB.out _ (HRO'.out.below (below_drewN (Below.refl _ _) _))).mono fun e w' h => ⟨h.1, h.2.symm⟩))))
    go_wp2_with fail
    go_ret
    exact ⟨ret_int HRL.out.symm, below_drewN hal _⟩
  · have hD := Blk.new w 66 #[.int .i64 3, .string tx, .int .i64 (ia : Int), .int .i64 (ib : Int), .int .i64 (iat : Int), .int .i64 (ic : Int)]
    have hal := (Below.refl w.heap.size w).alloc (Nat.le_refl _) (.cells #[.int .i64 3, .string tx, .int .i64 (ia : Int), .int .i64 (ib : Int), .int .i64 (iat : Int), .int .i64 (ic : Int)] 66)
    have hm1 := h.below hal
    have HRL : Hid ((rlen (os.map olen) ⟨3, tx, ia, ib, iat, ic⟩ : Int) = 0) := Lib.hid rfl
    clear h hm1 q3 q4 q5 q6 hs
    go_enter Try.func98, Try.ntmps98
    go_wp2_with fail
    go_ret
    exact ⟨ret_int HRL.out.symm, hal⟩
  · have hD := Blk.new w 66 #[.int .i64 4, .string tx, .int .i64 (ia : Int), .int .i64 (ib : Int), .int .i64 (iat : Int), .int .i64 (ic : Int)]
    have hal := (Below.refl w.heap.size w).alloc (Nat.le_refl _) (.cells #[.int .i64 4, .string tx, .int .i64 (ia : Int), .int .i64 (ib : Int), .int .i64 (iat : Int), .int .i64 (ic : Int)] 66)
    have hm1 := h.below hal
    have HRL : Hid ((rlen (os.map olen) ⟨4, tx, ia, ib, iat, ic⟩ : Int) = 0) := Lib.hid rfl
    clear h hm1 q3 q4 q5 q6 hs
    go_enter Try.func98, Try.ntmps98
    go_wp2_with fail
    go_ret
    exact ⟨ret_int HRL.out.symm, hal⟩
  · have hD := Blk.new w 66 #[.int .i64 5, .string tx, .int .i64 (ia : Int), .int .i64 (ib : Int), .int .i64 (iat : Int), .int .i64 (ic : Int)]
    have hal := (Below.refl w.heap.size w).alloc (Nat.le_refl _) (.cells #[.int .i64 5, .string tx, .int .i64 (ia : Int), .int .i64 (ib : Int), .int .i64 (iat : Int), .int .i64 (ic : Int)] 66)
    have hm1 := h.below hal
    have hia : ia < os.length := q3 (by decide)
    have hsa := hs ia hia
    have hic := q6 rfl
    have HRL : Hid ((rlen (os.map olen) ⟨5, tx, ia, ib, iat, ic⟩ : Int) = (olen os[ia] : Int) * (ic : Int)) := Lib.hid (by
      have e : rlen (os.map olen) ⟨5, tx, ia, ib, iat, ic⟩ = (os.map olen).getD ia 0 * ic := rfl
      rw [e, olen_at hia, Int.natCast_mul])
    have hc := hm1.c0
    obtain ⟨g, c, p, rfl, hgl, hcp, hro⟩ := hm1.at_ hia
    have hcap := hm1.cap
    have hML := hm1.1.lt
    have HRO := Lib.hid hro
    have HA := Lib.hid (fun W (h : RO W (.pointer p) os[ia]) => ropeLen_any _ _ W h)
    have HOA : Hid ((olen os[ia] : Int) = ((otx os[ia]).length : Int)) := Lib.hid rfl
    have hia0 : (0 : Int) ≤ (ia : Int) := Int.natCast_nonneg _
    have hia1 : (ia : Int) < (os.length : Int) := by omega
    have hDL := hD.lt
    have d2 : (w.alloc (.cells #[.int .i64 5, .string tx, .int .i64 (ia : Int), .int .i64 (ib : Int), .int .i64 (iat : Int), .int .i64 (ic : Int)] 66)).cell? ⟨w.heap.size, 2, none⟩ = some (.int .i64 (ia : Int)) := by rw [hD.cell]; rfl
    have d3 : (w.alloc (.cells #[.int .i64 5, .string tx, .int .i64 (ia : Int), .int .i64 (ib : Int), .int .i64 (iat : Int), .int .i64 (ic : Int)] 66)).cell? ⟨w.heap.size, 3, none⟩ = some (.int .i64 (ib : Int)) := by rw [hD.cell]; rfl
    have d5 : (w.alloc (.cells #[.int .i64 5, .string tx, .int .i64 (ia : Int), .int .i64 (ib : Int), .int .i64 (iat : Int), .int .i64 (ic : Int)] 66)).cell? ⟨w.heap.size, 5, none⟩ = some (.int .i64 (ic : Int)) := by rw [hD.cell]; rfl
    rw [← HOA.out] at HA
    clear h hm1 q3 q4 q5 q6 hs hro
    generalize olen os[ia] = la at *
    have hmul0 : 0 ≤ (la : Int) * (ic : Int) := Int.mul_nonneg (by omega) (by omega)
    have hmul1 : (la : Int) * (ic : Int) ≤ 600 * 4 := Int.mul_le_mul (by omega) (by omega) (by omega) (by omega)
    have hadd : IntKind.i64.wrap ((la : Int) * (ic : Int)) = ((la * ic : Nat) : Int) := by rw [IntWalk.i64_in _ (by omega), Int.natCast_mul]
    rw [← Int.natCast_mul] at HRL
    clear hmul0 hmul1
    generalize la * ic = pr at *
    go_enter Try.func98, Try.ntmps98
    go_wp2_with fail
    go_quiet ((go_at_call 86; with_reducible exact Calls.quiet_of_same ((HA.out _ (HRO.out.below (below_drewN (Below.refl _ _) _))).mono fun e w' h => ⟨h.1, h.2.symm⟩)))
    go_wp2_with fail
    go_ret
    exact ⟨ret_int HRL.out.symm, below_drewN hal _⟩
end Go.Proofs.Ytddbhoilhapljaa
