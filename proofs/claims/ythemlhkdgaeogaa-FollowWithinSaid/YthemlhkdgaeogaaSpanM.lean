/-
  The walk of spans.May at sets that may be.
-/
import Derived.Test.YthemlhkdgaeogaaSpanW
import Derived.Test.YthemlhkdgaeogaaMix
namespace Go.Proofs.Ythemlhkdgaeogaa
open Go.RowKit Go.Shelf
set_option linter.unusedVariables false
set_option linter.unusedSimpArgs false

theorem nrm_lt (l : List Sp) : ∀ b, Nrm b l → ∀ k (hk : k < l.length), l[k].lo < l[k].hi := by
  induction l with
  | nil => intro b _ k hk; simp at hk
  | cons s l ih =>
    intro b h k hk
    cases k with
    | zero => exact h.2.1
    | succ k => exact ih _ h.2.2 k (by simpa using hk)
theorem nrm_next (l : List Sp) : ∀ b, Nrm b l → ∀ k (hk : k + 1 < l.length), l[k].hi < l[k + 1].lo := by
  induction l with
  | nil => intro b _ k hk; simp at hk
  | cons s l ih =>
    intro b h k hk
    cases k with
    | zero =>
      cases l with
      | nil => simp at hk
      | cons t l => exact h.2.2.1
    | succ k => exact ih _ h.2.2 k (by simpa using hk)
set_option maxRecDepth 100000 in
set_option maxHeartbeats 2000000 in
theorem spansMay_any (n : Nat) (v : Value) (l : List Sp) (w : World) (h : CRow 2 spc w v l) (hl : l.length ≤ 40) (hn : n ≤ 600) (hN : Nrm 0 l) (hhi : ∀ x ∈ l, x.hi ≤ n) :
    Calls Try.prog 34 #[.int .i64 (n : Int), v] w fun e w' => e = .returned (.bool true) ∧ Below w.heap.size w w' := by
  obtain ⟨A, c, rfl, hc1, hc2, hrd⟩ := h
  have HRD := Lib.hid hrd
  have HLT := Lib.hid (nrm_lt l 0 hN)
  have HNX := Lib.hid (nrm_next l 0 hN)
  have HHI := Lib.hid hhi
  clear hrd hN hhi
  go_enter Try.func34, Try.ntmps34
  go_wp2_with fail
  go_loopw [5, 7, 21] (fun vl vx vi wr => ∃ (k : Nat) (t : Int), k ≤ l.length ∧ vi = .int .i64 k ∧ vl = .int .i64 t ∧ Hid (∀ hk : k < l.length, t < (l[k].lo : Int)) ∧ Below w.heap.size w wr) (fun _ _ vi _ => l.length - (intOf vi).toNat)
  case atStart => exact ⟨0, -1, Nat.zero_le _, rfl, rfl, Lib.hid (fun hk => by omega), Below.refl _ _⟩
  case round =>
    obtain ⟨k, t, hk, rfl, rfl, HT, hb⟩ := hrel
    have hbs := hb.size
    by_cases hlt : k < l.length
    · obtain ⟨b, off, rfl, hbb, x0, x1⟩ := CRow.cells2 (HRD.out.below hb) hlt
      have h1 := HT.out hlt
      have h2 := HLT.out k hlt
      have h3 := HHI.out l[k] (List.getElem_mem hlt)
      have HT2 : Hid (∀ hk : k + 1 < l.length, (l[k].hi : Int) < (l[k + 1].lo : Int)) := Lib.hid (fun hk => by have := HNX.out k hk; omega)
      have hbw : b < wr.heap.size := by omega
      have g1 : ¬ (l[k].lo : Int) ≤ t := by omega
      have g2 : ¬ (l[k].hi : Int) ≤ (l[k].lo : Int) := by omega
      have g3 : ¬ (n : Int) < (l[k].hi : Int) := by omega
      generalize l[k] = x at *
      have HB := Lib.hid (hb.alloc hbs (.cells #[.int .i64 (x.lo : Int), .int .i64 (x.hi : Int)] 73))
      clear hb HT h1
      go_wp2_with fail
      go_roundw
      case rel => exact ⟨k + 1, _, by omega, by go_num, rfl, HT2, HB.out⟩
      case measure => simp [intOf]; omega
    · have HB := Lib.hid hb
      clear hb
      go_wp2_with fail
      go_ret
      exact ⟨rfl, HB.out⟩
theorem own_hi_ne {w : World} {base n g : Nat} {el : TypeId} {size : Nat} {v : Value} {xs : List Value} (h : w.ownsRow base el size v n xs) (hg : g < base) : v.ownBlock ≠ some g := by
  intro e; have := (h.lt _ e).1; omega
end Go.Proofs.Ythemlhkdgaeogaa
