/-
  The walk of rope.Play: the texts of the ropes that it makes.
-/
import Derived.Test.YtddbhoilhapljaaCRow
import Derived.Test.YtddbhoilhapljaaRopeX
import Derived.Test.YtddbhoilhapljaaRopeH
namespace Go.Proofs.Ytddbhoilhapljaa
open Go.RowKit
set_option linter.unusedVariables false

def bytesV (l : List UInt8) : Value := .string ⟨l.toArray⟩
theorem strR_info : (Try.prog.info? 9).map (fun i => (i.zero, i.size, i.bytes)) = some (some (.string ⟨#[]⟩), 1, 16) := by kernel_rfl
def PlayP (l : List Ro) (w : World) (e : Ending) (w' : World) : Prop :=
  ∃ (va vc : Value), e = .returned (.tuple #[va, vc, .int .i64 0]) ∧ w'.ownsRow w.heap.size 9 1 va (runT [] l).1.length ((runT [] l).1.map bytesV) ∧ w'.ownsRow w.heap.size 28 1 vc l.length (cellsI (runT [] l).2) ∧ Below w.heap.size w w'
set_option maxRecDepth 100000 in
set_option maxHeartbeats 8000000 in
theorem ropePlay_any (v : Value) (l : List Ro) (w : World) (h : CRow 6 roc w v l) (hl : l.length ≤ 80) (hv : vldT [] l) :
    Calls Try.prog 38 #[v] w (PlayP l w) := by
  have hsm := runT_small l [] hv (by simp)
  have HA := Lib.hid (rplay_any v l w h hl hv)
  obtain ⟨A, cap, rfl, h1, h2, hr⟩ := h
  clear hr
  go_enter Try.func38, Try.ntmps38
  go_wp2_with fail
  refine HA.out.mono ?_
  rintro e w1 ⟨va, vals, os, vc, rfl, ho1, hro1, hok, hts, hoc, hb1⟩
  have hol : os.length = (runT [] l).1.length := by rw [← hts, List.length_map]
  obtain ⟨A1, c1, rfl, hA1, hA2⟩ := own_slice ho1
  obtain ⟨Ac, cc, rfl, hcc1, hcc2⟩ := own_slice hoc
  have hcnt := runT_cnt l []
  simp only [List.length_nil, Nat.zero_add] at hcnt
  go_wp2_with fail
  have hs1 := hb1.size
  go_loopw [2, 16] (fun vt i wr => ∃ k : Nat, k ≤ os.length ∧ i = .int .i64 k ∧ wr.ownsRow w1.heap.size 9 1 vt k (((runT [] l).1.take k).map bytesV) ∧ Below w1.heap.size w1 wr) (fun _ i _ => os.length - (intOf i).toNat)
  case atStart => exact ⟨0, Nat.zero_le _, rfl, World.ownsRow_nil _ _ _ _, Below.refl _ _⟩
  case round =>
    obtain ⟨k, hk, rfl, ht, hb⟩ := hrel
    by_cases hlt : k < os.length
    · obtain ⟨u, hu, hru⟩ := hro1 k os[k] (by simp [hlt])
      have hlt2 : k < (runT [] l).1.length := by omega
      have hgt : (runT [] l).1[k] = otx os[k] := by simp [← hts]
      have HS := Lib.hid (string_any u os[k] wr (hru.below hb) (hok _ (List.getElem_mem hlt)) (by rw [← hgt]; exact hsm _ (List.getElem_mem hlt2)))
      obtain ⟨g, rfl, hg, hcl⟩ : ∃ g, A1 = some ⟨g, 0, none⟩ ∧ g < w1.heap.size ∧ w1.cell? ⟨g, k, none⟩ = some u := by
        rcases ho1.2 with ⟨e1, e2⟩ | ⟨g, cap, cur, e1, e2, e3, e4, e5, e6, e7⟩
        · omega
        · injection e1 with e1 e8 e9
          refine ⟨g, e1, (Array.getElem?_eq_some_iff.1 e3).1, ?_⟩
          have h8 : (List.take (os.length * 1) cur.toList)[k]? = some u := by rw [e7]; exact hu
          rw [List.getElem?_take_of_lt (by omega), Array.getElem?_toList] at h8
          simp [World.cell?, e3, h8]
      have hc := (hb.cell (p := ⟨g, k, none⟩) hg).trans hcl
      obtain ⟨At, ct, rfl, hat1, hat2⟩ := own_slice ht
      have HT := Lib.hid ht
      have HB := Lib.hid hb
      have HG := Lib.hid hgt
      clear ht hb hgt hcl hu hro1 hok hts hoc hru hsm ho1
      clear HA
      go_wp2_with fail
      refine HS.out.mono ?_
      rintro e w2 ⟨rfl, hb2⟩
      generalize hss : (⟨(otx os[k]).toArray⟩ : ByteArray) = ss
      have HSS := Lib.hid hss
      have HO2 := Lib.hid (own_below HT.out hb2)
      have HB2 := Lib.hid (bstep HB.out hb2)
      have hs2 := HB2.out.size
      clear hss HS hb2
      go_wp2_with (at_builtin; refine wpList_appN rfl (.tmp 20) (.tmp 23) _ rfl w1.heap.size 9 _ 1 16 Try.underlying62 strR_info rfl (by decide) _ k _ rfl HO2.out [.string ss] rfl w2.heap.size rfl rfl rfl (by simp [Value.oneCell']) (by omega) (by omega) hs2 ?_; intro v8 w8 ho8 hB8 hg8; have HB8 := Lib.hid (hB8 _ (Nat.le_refl _) _ HB2.out); have HO8 := Lib.hid ho8; clear ho8 hB8 hg8)
      go_roundw
      case rel =>
        refine ⟨k + 1, by omega, by go_num, ?_, HB8.out⟩
        rw [List.take_succ_eq_append_getElem hlt2, List.map_append, HG.out]
        simp only [List.map_cons, List.map_nil, bytesV, HSS.out]
        exact HO8.out
      case measure => simp [intOf]; omega
    · obtain rfl : k = os.length := by omega
      rw [hol, List.take_length] at ht
      obtain ⟨At, ct, rfl, hat1, hat2⟩ := own_slice ht
      have HT := Lib.hid ht
      have HB := Lib.hid hb
      have HC := Lib.hid hoc
      have HB1 := Lib.hid hb1
      clear ht hb hro1 hok hts hoc hsm ho1 hb1
      go_wp2_with fail
      go_ret3
      refine ⟨_, _, rfl, ?_, own_below HC.out HB.out, bstep HB1.out HB.out⟩
      exact own_mono HT.out hs1
end Go.Proofs.Ytddbhoilhapljaa
