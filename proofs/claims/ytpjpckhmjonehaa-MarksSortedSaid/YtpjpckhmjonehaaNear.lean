/-
  The walk of marks.Near, to the right.
-/
import Derived.Test.YtpjpckhmjonehaaMarks
import Derived.BigQuiet
import Derived.Deep.QuietTactic
namespace Go.Proofs.Ytpjpckhmjonehaa
open Go.RowKit
set_option linter.unusedVariables false
set_option linter.unusedSimpArgs false

/-- What is found among the first i. -/
def NearAt (ms : List Mk) (k i : Nat) (best : Int) : Prop :=
  (best = -1 ∧ ∀ j (h : j < ms.length), j < i → ms[j].at_ < k) ∨ ∃ b, ∃ h : b < ms.length, best = (b : Int) ∧ b < i ∧ k ≤ ms[b].at_ ∧ ∀ j (h : j < ms.length), j < i → k ≤ ms[j].at_ → ms[b].at_ ≤ ms[j].at_
def NearPost (ms : List Mk) (k : Nat) (w : World) (e : Ending) (w' : World) : Prop :=
  Below w.heap.size w w' ∧ ((e = .returned (.tuple #[.int .i64 0, .int .i64 7]) ∧ ∀ j (h : j < ms.length), ms[j].at_ < k) ∨
    ∃ b, ∃ h : b < ms.length, e = .returned (.tuple #[.int .i64 (b : Int), .int .i64 0]) ∧ k ≤ ms[b].at_ ∧ ∀ j (h : j < ms.length), k ≤ ms[j].at_ → ms[b].at_ ≤ ms[j].at_)
set_option maxRecDepth 100000 in
set_option maxHeartbeats 8000000 in
theorem near_any (v : Value) (ms : List Mk) (k : Nat) (w : World) (hr : CRow 2 mkc w v ms) (hl : ms.length ≤ 60) (hk : k ≤ 100000) (hb : ∀ m ∈ ms, m.at_ ≤ 100000) :
    Calls Try.prog 7 #[v, .int .i64 (k : Int), .bool true] w (NearPost ms k w) := by
  obtain ⟨A, c, rfl, hc1, hc2, hrd⟩ := hr
  have HRD := Lib.hid hrd
  have HBD := Lib.hid hb
  clear hrd hb
  have g1 : decide ((60 : Int) < (ms.length : Int)) = false := decide_eq_false (by omega)
  have g2 : decide (60 < ms.length) = false := decide_eq_false (by omega)
  go_enter Try.func7, Try.ntmps7
  go_wp2_with fail
  clear g1 g2
  go_loopw [8, 16] (fun vb vi W => ∃ (i : Nat) (best : Int), i ≤ ms.length ∧ vi = .int .i64 (i : Int) ∧ vb = .int .i64 best ∧ Hid (NearAt ms k i best) ∧ Below w.heap.size w W) (fun _ vi _ => ms.length - (intOf vi).toNat)
  case atStart => exact ⟨0, -1, Nat.zero_le _, rfl, rfl, Lib.hid (.inl ⟨rfl, fun j h hj => absurd hj (Nat.not_lt_zero _)⟩), Below.refl _ _⟩
  case round =>
    obtain ⟨i, best, hi, rfl, rfl, HN, hb⟩ := hrel
    have HB := Lib.hid hb
    have hbs := hb.size
    clear hb
    rcases Nat.lt_or_ge i ms.length with hlt | hge
    · have k1 : (i : Int) < (ms.length : Int) := by omega
      have k2 : (0 : Int) ≤ (i : Int) := by omega
      obtain ⟨b0, o0, rfl, hb0, x0, x1⟩ := CRow.at2 (x := fun m : Mk => Value.int .i64 (m.at_ : Int)) (y := fun m : Mk => Value.bool m.right) (HRD.out.below HB.out) hlt
      have hmb := HBD.out _ (List.getElem_mem hlt)
      obtain ⟨a, ha1, ha2⟩ : ∃ a, ms[i].at_ ≤ a ∧ a ≤ ms[i].at_ := ⟨_, Nat.le_refl _, Nat.le_refl _⟩
      have HA : Hid (ms[i].at_ = a) := Lib.hid (Nat.le_antisymm ha1 ha2)
      rw [HA.out] at x0 hmb
      clear ha1 ha2
      generalize ms[i].right = rt at *
      have HB2 := Lib.hid (HB.out.alloc hbs (.cells #[.int .i64 (a : Int), .bool rt] 27))
      by_cases q : a < k
      · have q1 : (a : Int) < (k : Int) := by omega
        go_wp2_with fail
        exact ⟨⟨i + 1, best, hlt, by go_num, rfl, Lib.hid (by
          rcases HN.out with ⟨h1, h2⟩ | ⟨b, h1, h2, h3, h4, h5⟩
          · exact .inl ⟨h1, fun j hj hji => by
              rcases Nat.lt_or_ge j i with r | r
              · exact h2 j hj r
              · obtain rfl : j = i := by omega
                rw [HA.out]; exact q⟩
          · exact .inr ⟨b, h1, h2, by omega, h4, fun j hj hji hk' => by
              rcases Nat.lt_or_ge j i with r | r
              · exact h5 j hj r hk'
              · obtain rfl : j = i := by omega
                rw [HA.out] at hk'; omega⟩), HB2.out⟩, by simp [intOf]; omega⟩
      · have q1 : decide ((a : Int) < (k : Int)) = false := decide_eq_false (by omega)
        have q2 : decide (a < k) = false := decide_eq_false (by omega)
        rcases HN.out with ⟨hb1, h2⟩ | ⟨b, h1, hb1, h3, h4, h5⟩
        · have H2 := Lib.hid h2
          subst hb1
          clear h2 HN
          go_wp2_with fail
          exact ⟨⟨i + 1, (i : Int), hlt, by go_num, rfl, Lib.hid (.inr ⟨i, hlt, rfl, Nat.lt_succ_self _, by rw [HA.out]; omega, fun j hj hji hk' => by
            rcases Nat.lt_or_ge j i with r | r
            · have := H2.out j hj r; omega
            · obtain rfl : j = i := by omega
              exact Nat.le_refl _⟩), HB2.out⟩, by simp [intOf]; omega⟩
        · have H5 := Lib.hid h5
          have H4 := Lib.hid h4
          obtain ⟨b1, o1, ev, _, y0, _⟩ := CRow.at2 (x := fun m : Mk => Value.int .i64 (m.at_ : Int)) (y := fun m : Mk => Value.bool m.right) (HRD.out.below HB.out) h1
          injection ev with ev
          injection ev with ev1 ev2 _
          subst ev1; subst ev2
          have hmb2 := HBD.out _ (List.getElem_mem h1)
          have HC2 : Hid (∃ ab, ms[b].at_ = ab) := Lib.hid ⟨_, rfl⟩
          obtain ⟨ab, hab⟩ := HC2.out
          have HAB := Lib.hid hab
          rw [hab] at y0 hmb2
          have hb0' : b0 < wr.heap.size := by omega
          have y1 : (wr.alloc (.cells #[.int .i64 (a : Int), .bool rt] 27)).cell? ⟨b0, o0 + b * 2, none⟩ = some (.int .i64 (ab : Int)) := (World.cell?_alloc_lt _ _ _ hb0').trans y0
          subst hb1
          have n1 : decide ((b : Int) < 0) = false := decide_eq_false (by omega)
          have n2 : (0 : Int) ≤ (b : Int) := by omega
          have n3 : (b : Int) < (ms.length : Int) := by omega
          clear h4 h5 hab HC2 y0 HN
          by_cases r : a < ab
          · have r1 : (a : Int) < (ab : Int) := by omega
            go_wp2_with fail
            go_quiet (fail)
            go_wp2_with fail
            exact ⟨⟨i + 1, (i : Int), hlt, by go_num, rfl, Lib.hid (.inr ⟨i, hlt, rfl, Nat.lt_succ_self _, by rw [HA.out]; omega, fun j hj hji hk' => by
              rcases Nat.lt_or_ge j i with r' | r'
              · have := H5.out j hj r' hk'
                rw [HAB.out] at this
                rw [HA.out]; omega
              · obtain rfl : j = i := by omega
                exact Nat.le_refl _⟩), below_drewN HB2.out _⟩, by simp [intOf]; omega⟩
          · have r1 : decide ((a : Int) < (ab : Int)) = false := decide_eq_false (by omega)
            have r2 : decide (a < ab) = false := decide_eq_false (by omega)
            go_wp2_with fail
            go_quiet (fail)
            go_wp2_with fail
            go_quiet (fail)
            go_wp2_with fail
            exact ⟨⟨i + 1, (b : Int), hlt, by go_num, rfl, Lib.hid (.inr ⟨b, h1, rfl, by omega, H4.out, fun j hj hji hk' => by
              rcases Nat.lt_or_ge j i with r' | r'
              · exact H5.out j hj r' hk'
              · obtain rfl : j = i := by omega
                rw [HA.out, HAB.out]; omega⟩), below_drewN HB2.out _⟩, by simp [intOf]; omega⟩
    · have k1 : decide ((i : Int) < (ms.length : Int)) = false := decide_eq_false (by omega)
      obtain rfl : i = ms.length := by omega
      rcases HN.out with ⟨hb1, h2⟩ | ⟨b, h1, hb1, h3, h4, h5⟩
      · have H2 := Lib.hid h2
        subst hb1
        clear h2 HN
        go_wp2_with fail
        go_ret2
        exact ⟨HB.out, .inl ⟨rfl, fun j h => H2.out j h h⟩⟩
      · have H5 := Lib.hid h5
        have H4 := Lib.hid h4
        subst hb1
        have n1 : decide ((b : Int) < 0) = false := decide_eq_false (by omega)
        clear h4 h5 HN
        go_wp2_with fail
        go_ret2
        exact ⟨HB.out, .inr ⟨b, h1, rfl, H4.out, fun j h hk' => H5.out j h h hk'⟩⟩
end Go.Proofs.Ytpjpckhmjonehaa
