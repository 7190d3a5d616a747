/-
  The walks of slices.Equal at ints, of the comparison of words.Update and of slices.EqualFunc at words: words that are the same.
-/
import Derived.Test.YtpgjjnbepkofdaaWrdL
import Derived.BigQuiet
import Derived.Deep.QuietTactic
namespace Go.Proofs.Ytpgjjnbepkofdaa
open Go.RowKit
set_option linter.unusedVariables false
set_option linter.unusedSimpArgs false

theorem equalI_any (va vb : Value) (xs : List Int) (w : World) (ha : Row .i64 w va xs) (hb : Row .i64 w vb xs) :
    Calls Try.prog 40 #[va, vb] w fun e w' => e = .returned (.bool true) ∧ Below w.heap.size w w' := by
  obtain ⟨A0, c0, rfl, hl0, hc0, _, hr0⟩ := ha
  obtain ⟨A1, c1, rfl, hl1, hc1, _, hr1⟩ := hb
  unfold maxLen at hc0 hc1
  go_enter Try.func40, Try.ntmps40
  go_wp2
  go_loopw [13] (fun i wr => ∃ k : Nat, k ≤ xs.length ∧ i = .int .i64 k ∧ Below w.heap.size w wr) (fun i _ => xs.length - (intOf i).toNat)
  case atStart => exact ⟨0, Nat.zero_le _, rfl, Below.refl _ _⟩
  case round =>
    obtain ⟨k, hk, rfl, hbel⟩ := hrel
    by_cases hlt : k < xs.length
    · have k1 : (k : Int) < (xs.length : Int) := by omega
      have k2 : (0 : Int) ≤ (k : Int) := by omega
      obtain ⟨b0, o0, rfl, _, hcell0⟩ := Row.at_ (hr0.below hbel) hlt
      obtain ⟨b1, o1, rfl, _, hcell1⟩ := Row.at_ (hr1.below hbel) hlt
      generalize xs.getD k 0 = z at *
      have HB := Lib.hid hbel
      clear hbel
      go_wp2_with fail
      go_quiet (fail)
      go_wp2_with fail
      exact ⟨⟨k + 1, by omega, by go_num, below_drewN HB.out nq⟩, by simp [intOf]; omega⟩
    · have k1 : decide ((k : Int) < (xs.length : Int)) = false := decide_eq_false (by omega)
      go_wp2_with fail
      go_ret
      exact ⟨rfl, hbel⟩
set_option maxRecDepth 100000 in
theorem same1_any (s : ByteArray) (va vb : Value) (xs : List Int) (w : World) (ha : Row .i64 w va xs) (hb : Row .i64 w vb xs) :
    Calls Try.prog 39 #[.agg #[.string s, va], .agg #[.string s, vb]] w fun e w' => e = .returned (.bool true) ∧ Below w.heap.size w w' := by
  have BE := ((Below.refl w.heap.size w).alloc (Nat.le_refl _) (.cells #[.string s, va] 42)).alloc (by simp) (.cells #[.string s, vb] 42)
  have E1 := Lib.hid (equalI_any va vb xs _ (ha.later BE) (hb.later BE))
  obtain ⟨A0, c0, rfl, hl0, hc0, _, hr0⟩ := ha
  obtain ⟨A1, c1, rfl, hl1, hc1, _, hr1⟩ := hb
  have HBE := Lib.hid BE
  have hq : (s.toList == s.toList) = true := bytes_eq rfl
  clear hr0 hr1 BE
  go_enter Try.func39, Try.ntmps39
  go_wp2_with fail
  refine E1.out.mono ?_
  rintro e w1 ⟨rfl, hb1⟩
  have HB1 := Lib.hid (bstep HBE.out hb1)
  clear hb1 E1
  go_wp2_with fail
  go_ret
  exact ⟨rfl, HB1.out⟩
/-- Words that may be read. -/
structure WRd (w : World) (v : Value) (l : List WV) : Prop where
  row : CRow 2 wvc w v l
  at_ : ∀ x ∈ l, Row .i64 w x.v x.at_
theorem WRd.later {w w' : World} {v : Value} {l : List WV} (h : WRd w v l) (hb : Below w.heap.size w w') : WRd w' v l := ⟨h.row.later hb, fun x hx => (h.at_ x hx).later hb⟩
set_option maxRecDepth 100000 in
set_option maxHeartbeats 4000000 in
theorem equalW_any (va vb : Value) (l l' : List WV) (w : World) (ha : WRd w va l) (hb : WRd w vb l') (hll : l.length ≤ 1000) (hk : l.map (fun x => (x.k, x.at_)) = l'.map (fun x => (x.k, x.at_))) :
    Calls Try.prog 41 #[va, vb, .func (.func 39) #[] #[]] w fun e w' => e = .returned (.bool true) ∧ Below w.heap.size w w' := by
  have hlen : l'.length = l.length := by have := congrArg List.length hk; simpa using this.symm
  obtain ⟨A0, c0, rfl, hl0, hc0, hr0⟩ := id ha.row
  obtain ⟨A1, c1, rfl, hl1, hc1, hr1⟩ := id hb.row
  rw [hlen] at hl1
  rw [hlen]
  have HA := Lib.hid ha
  have HB := Lib.hid hb
  have HL := Lib.hid hlen
  have HK := Lib.hid hk
  have HR0 := Lib.hid hr0
  have HR1 := Lib.hid hr1
  clear ha hb hlen hk hr0 hr1
  go_enter Try.func41, Try.ntmps41
  go_wp2_with fail
  go_loopw [17] (fun i wr => ∃ k : Nat, k ≤ l.length ∧ i = .int .i64 k ∧ Below w.heap.size w wr) (fun i _ => l.length - (intOf i).toNat)
  case atStart => exact ⟨0, Nat.zero_le _, rfl, Below.refl _ _⟩
  case round =>
    obtain ⟨k, hk, rfl, hbel⟩ := hrel
    have HBR := Lib.hid hbel
    clear hbel
    by_cases hlt : k < l.length
    · have k1 : (k : Int) < (l.length : Int) := by omega
      have k2 : (0 : Int) ≤ (k : Int) := by omega
      have hlt' : k < l'.length := by rw [HL.out]; exact hlt
      have hkk : (l[k].k, l[k].at_) = (l'[k].k, l'[k].at_) := by
        have h9 := congrArg (fun m : List (List UInt8 × List Int) => m[k]?) HK.out
        simp only [List.getElem?_map, List.getElem?_eq_getElem hlt, List.getElem?_eq_getElem hlt', Option.map_some] at h9
        injection h9
      obtain ⟨b0, o0, rfl, d01, d02, d03⟩ := CRow.at2 (x := fun x : WV => Value.string ⟨x.k.toArray⟩) (y := fun x : WV => x.v) (HR0.out.below HBR.out) hlt
      obtain ⟨b1, o1, rfl, d11, d12, d13⟩ := CRow.at2 (x := fun x : WV => Value.string ⟨x.k.toArray⟩) (y := fun x : WV => x.v) (HR1.out.below HBR.out) hlt'
      have ra := HA.out.at_ _ (List.getElem_mem hlt)
      have rb := HB.out.at_ _ (List.getElem_mem hlt')
      generalize l[k] = x at *
      generalize l'[k] = y at *
      obtain ⟨xk, xa, xv⟩ := x
      obtain ⟨yk, ya, yv⟩ := y
      simp only [Prod.mk.injEq] at hkk d02 d03 d12 d13 ra rb
      obtain ⟨rfl, rfl⟩ := hkk
      obtain ⟨Ax, cx, rfl, _, _, _, _⟩ := id ra
      obtain ⟨Ay, cy, rfl, _, _, _, _⟩ := id rb
      have RA := Lib.hid ra
      have RB := Lib.hid rb
      have BEX := Lib.hid ((HBR.out.alloc HBR.out.size (.cells #[.string ⟨xk.toArray⟩, .slice Ax xa.length cx] 42)).alloc (by have := HBR.out.size; simp; omega) (.cells #[.string ⟨xk.toArray⟩, .slice Ay xa.length cy] 42))
      have S := Lib.hid (same1_any ⟨xk.toArray⟩ _ _ xa _ (RA.out.later BEX.out) (RB.out.later BEX.out))
      have b1lt : b1 < wr.heap.size := Nat.lt_of_lt_of_le d11 HBR.out.size
      have BN : Below wr.heap.size wr (wr.alloc (.cells #[.string ⟨xk.toArray⟩, .slice Ax xa.length cx] 42)) := (Below.refl _ _).alloc (Nat.le_refl _) _
      have f2 := (BN.cell (p := ⟨b1, o1 + k * 2, none⟩) b1lt).trans d12
      have f3 := (BN.cell (p := ⟨b1, o1 + k * 2 + 1, none⟩) b1lt).trans d13
      clear ra rb HA HB d01 d11 BN d12 d13
      go_wp2_with fail
      refine S.out.mono ?_
      rintro e w2 ⟨rfl, hb2⟩
      have HB2 := Lib.hid (BEX.out.trans (hb2.mono BEX.out.size))
      clear hb2 S f2 f3 d02 d03 BEX
      go_wp2_with fail
      exact ⟨⟨k + 1, by omega, by go_num, HB2.out⟩, by simp [intOf]; omega⟩
    · have k1 : decide ((k : Int) < (l.length : Int)) = false := decide_eq_false (by omega)
      go_wp2_with fail
      go_ret
      exact ⟨rfl, HBR.out⟩
end Go.Proofs.Ytpgjjnbepkofdaa
