/-
  The walk of RopeStays: at every input it returns true, and nothing that was there is changed.
-/
import Derived.Test.YtddbhoilhapljaaMakes
import Derived.Test.YtddbhoilhapljaaTexts
namespace Go.Proofs.Ytddbhoilhapljaa
open Go.RowKit
set_option linter.unusedVariables false

def strOf (l : List UInt8) : ByteArray := ⟨l.toArray⟩
theorem bytesV_map (ts : List (List UInt8)) : ts.map bytesV = (ts.map strOf).map Value.string := by simp [bytesV, strOf, Function.comp_def]
theorem srow_own {w : World} {base : Nat} {e : TypeId} {v : Value} {ts : List (List UInt8)} (h : w.ownsRow base e 1 v ts.length (ts.map bytesV)) : SRow w v (ts.map strOf) := by
  rw [bytesV_map] at h
  exact SRow.of_own (by rw [List.length_map]; exact h)
theorem SRow.take {w : World} {A : Option Addr} {n c : Nat} {ss : List ByteArray} {k : Nat} (h : SRow w (.slice A n c) ss) (hk : k ≤ ss.length) : SRow w (.slice A k c) (ss.take k) := by
  obtain ⟨A', c', hv, hl, hc, hr⟩ := h
  injection hv with h1 h2 h3
  subst h1; subst h3
  have hlen : (ss.take k).length = k := by rw [List.length_take, Nat.min_eq_left hk]
  refine ⟨A, c, by rw [hlen], by omega, hc, ⟨by simp, fun hp => ?_⟩⟩
  rw [hlen] at hp
  obtain ⟨ad, ha, hb, hcell⟩ := hr.2 (by omega)
  refine ⟨ad, ha, hb, fun j u hu => hcell j u ?_⟩
  rw [List.getElem?_map, List.getElem?_take] at hu
  rw [List.getElem?_map]
  split at hu
  · exact hu
  · simp at hu
set_option maxRecDepth 100000 in
set_option maxHeartbeats 8000000 in
theorem ropeStays_walk (w : World) (v0 : Value) (ms : List Mke) (h0 : Mkes w v0 ms) (n : Int) (hn : -9223372036854775808 ≤ n ∧ n ≤ 9223372036854775807) :
    Calls Try.prog 9 #[v0, .int .i64 n] w fun e w' => e = .returned (.bool true) ∧ Below w.heap.size w w' := by
  have HM := Lib.hid (makes_any v0 ms w h0)
  obtain ⟨A, c, rfl, hl, hc, hw⟩ := h0
  clear hw
  go_enter Try.func9, Try.ntmps9
  go_wp2_with fail
  refine HM.out.mono ?_
  rintro e w1 ⟨v1, os, rfl, ho, hv, hol, hb1⟩
  have hrow := CRow.of_own roc_len ho
  have HRP := Lib.hid (roped_any v1 os w1 hrow (by omega) hv)
  obtain ⟨Ao, co, rfl, hao1, hao2⟩ := own_slice ho
  have HROW := Lib.hid hrow
  have HB1 := Lib.hid hb1
  have HV := Lib.hid hv
  clear ho hrow hb1 hv HM
  go_wp2_with fail
  refine HRP.out.mono ?_
  rintro e w2 ⟨va, rfl, hva, hb2⟩
  have HSA := Lib.hid (srow_own hva)
  obtain ⟨Aa, ca, rfl, haa1, haa2⟩ := own_slice hva
  have HB2 := Lib.hid (bstep HB1.out hb2)
  have HROW2 := Lib.hid (HROW.out.later hb2)
  obtain ⟨k, hk, KP⟩ := picked_lit n ((os.length : Int) + 1) hn (by omega) (by omega)
  have KP := Lib.hid KP
  have hki : (k : Int) ≤ (os.length : Int) := by omega
  have hkn : k ≤ os.length := by omega
  have hk0 : (0 : Int) ≤ (k : Int) := by omega
  have hlen9 : (runT [] os).1.length = (runT [] (os.take k)).1.length + ((runT [] os).1.length - (runT [] (os.take k)).1.length) ∧ (runT [] (os.take k)).1 = (runT [] os).1.take (runT [] (os.take k)).1.length := by
    have e : (runT [] os).1 = (runT (runT [] (os.take k)).1 (os.drop k)).1 := by rw [← List.take_append_drop k os, runT_append, List.take_append_drop]
    obtain ⟨r, hr⟩ := runT_pre (os.drop k) (runT [] (os.take k)).1
    rw [hr] at e
    rw [e]
    refine ⟨by rw [List.length_append]; omega, by rw [List.take_left]⟩
  have HLEN := Lib.hid hlen9
  clear hlen9
  have hvk : vldT [] (os.take k) := by
    have := HV.out
    rw [← List.take_append_drop k os, vldT_append] at this
    exact this.1
  have HP2 := Lib.hid (roped_any (.slice Ao k co) (os.take k) w2 (CRow.take roc_len HROW2.out hkn) (by rw [List.length_take]; omega) hvk)
  clear hva hb2 HRP hvk
  go_wp2_with fail
  refine (KP.out _).mono ?_
  rintro e w' ⟨rfl, rfl⟩
  go_wp2_with fail
  refine HP2.out.mono ?_
  rintro e w3 ⟨vb, rfl, hvb, hb3⟩
  have HSB := Lib.hid (srow_own hvb)
  obtain ⟨Ab, cb, rfl, hab1, hab2⟩ := own_slice hvb
  have HB3 := Lib.hid (bstep HB2.out hb3)
  have HSA3 := Lib.hid (HSA.out.later hb3)
  obtain ⟨hl1, hl2⟩ := HLEN.out
  have hll : (runT [] (os.take k)).1.length ≤ (runT [] os).1.length := by rw [hl2, List.length_take]; exact Nat.min_le_right _ _
  have HT := Lib.hid (texts_any _ _ _ _ w3 HSB.out (SRow.take (k := (runT [] (os.take k)).1.length) HSA3.out (by rw [List.length_map]; exact hll)))
  have HE : Hid ((runT [] (os.take k)).1.map strOf = ((runT [] os).1.map strOf).take (runT [] (os.take k)).1.length) := Lib.hid (by rw [← List.map_take, ← hl2])
  generalize (runT [] (os.take k)).1 = part at *
  generalize (runT [] os).1 = all at *
  clear hl1 hl2 hvb hb3 HLEN
  go_wp2_with fail
  refine HT.out.mono ?_
  rintro e w4 ⟨rfl, hb4⟩
  have HB4 := Lib.hid (bstep HB3.out hb4)
  have hd : decide (part.map strOf = (all.map strOf).take part.length) = true := decide_eq_true HE.out
  rw [hd]
  clear hb4 hd
  go_wp2_with fail
  go_ret
  exact ⟨rfl, HB4.out⟩
end Go.Proofs.Ytddbhoilhapljaa
