/-
  The walks of diff.fault and diff.Cost: the cost of two lists of at most 80 lines of at most 600 bytes each. Nothing that was there is changed.
-/
import Derived.Test.YtpbpdglabeoehaaCosts
import Derived.Handy
namespace Go.Proofs.Ytpbpdglabeoehaa
open Go.RowKit
set_option linter.unusedVariables false

theorem diff_index (v : Value) (ss : List ByteArray) (w : World) (hr : SRow w v ss) (hall : ∀ s ∈ ss, s.size ≤ 600) :
    Calls Try.prog 78 #[v, .func (.func 62) #[] #[]] w fun e w' => e = .returned (.int .i64 (-1)) ∧ w = w' := by
  obtain ⟨A, c, rfl, hl, hc, hrd⟩ := hr
  unfold maxLen at hc
  go_enter Try.func78, Try.ntmps78
  go_wp2
  go_loop [8] (fun i => ∃ k : Nat, k ≤ ss.length ∧ i = .int .i64 k) (fun i => ss.length - (intOf i).toNat)
  case atStart => exact ⟨0, Nat.zero_le _, rfl⟩
  case round =>
    obtain ⟨k, hk, rfl⟩ := hrel
    by_cases hlt : k < ss.length
    · obtain ⟨b0, o0, rfl, _, hcell⟩ := SRow.at_ hrd hlt
      have hsz := hall ss[k] (List.getElem_mem hlt)
      generalize ss[k] = s at *
      have hd : decide (600 < (s.size : Int)) = false := by simp; omega
      go_wp2
      go_round
      case rel => exact ⟨k + 1, by omega, by go_num⟩
      case measure => simp [intOf]; omega
    · go_wp2
      go_ret
      exact ⟨rfl, rfl⟩
theorem diff_contains (v : Value) (ss : List ByteArray) (w : World) (hr : SRow w v ss) (hall : ∀ s ∈ ss, s.size ≤ 600) :
    Calls Try.prog 63 #[v, .func (.func 62) #[] #[]] w fun e w' => e = .returned (.bool false) ∧ w = w' := by
  go_enter Try.func63, Try.ntmps63
  go_wp2_with fail
  refine (diff_index v ss _ hr hall).mono ?_
  rintro e w' ⟨rfl, rfl⟩
  go_wp2_with fail
  go_ret
  exact ⟨rfl, rfl⟩
theorem fault_any (g : Nat) (va vb : Value) (a b : List ByteArray) (w : World) (hca : w.cell? ⟨g, 0, none⟩ = some va) (hcb : w.cell? ⟨g, 1, none⟩ = some vb) (ha : SRow w va a) (hb : SRow w vb b)
    (hla : a.length ≤ 80) (hlb : b.length ≤ 80) (hsa : ∀ s ∈ a, s.size ≤ 600) (hsb : ∀ s ∈ b, s.size ≤ 600) :
    Calls Try.prog 46 #[.slice (some ⟨g, 0, none⟩) 2 2] w fun e w' => e = .returned (.int .i64 0) ∧ w = w' := by
  go_enter Try.func46, Try.ntmps46
  go_wp2
  refine wp_loop_rounds 3 ?_
  rw [rounds_succ]
  obtain ⟨A0, c0, rfl, hl0, hc0, hr0⟩ := id ha
  have hd0 : decide (80 < (a.length : Int)) = false := by simp; omega
  go_wp2_with fail
  refine (diff_contains _ a _ ha hsa).mono ?_
  rintro e w' ⟨rfl, rfl⟩
  go_wp2_with fail
  rw [rounds_succ]
  obtain ⟨A1, c1, rfl, hl1, hc1, hr1⟩ := id hb
  have hd1 : decide (80 < (b.length : Int)) = false := by simp; omega
  go_wp2_with fail
  refine (diff_contains _ b _ hb hsb).mono ?_
  rintro e w' ⟨rfl, rfl⟩
  go_wp2_with fail
  rw [rounds_succ]
  go_wp2_with fail
  go_ret
  exact ⟨rfl, rfl⟩

theorem cost_any (va vb : Value) (a b : List ByteArray) (w : World) (ha : SRow w va a) (hb : SRow w vb b)
    (hla : a.length ≤ 80) (hlb : b.length ≤ 80) (hsa : ∀ s ∈ a, s.size ≤ 600) (hsb : ∀ s ∈ b, s.size ≤ 600) :
    Calls Try.prog 48 #[va, vb] w fun e w' => e = .returned (.tuple #[.int .i64 (Dc.dc a b), .int .i64 0]) ∧ Below w.heap.size w w' := by
  obtain ⟨A0, c0, rfl, hl0, hc0, hr0⟩ := id ha
  obtain ⟨A1, c1, rfl, hl1, hc1, hr1⟩ := id hb
  generalize hva : Value.slice A0 a.length c0 = va at *
  generalize hvb : Value.slice A1 b.length c1 = vb at *
  have hal : Below w.heap.size w (w.alloc (.cells #[va, vb] 44)) := (Below.refl _ _).alloc (Nat.le_refl _) _
  have hn : Blk (w.alloc (.cells #[va, vb] 44)) w.heap.size 44 #[va, vb] := Blk.new w _ _
  have hf := fault_any w.heap.size va vb a b _ (by rw [hn.cell]; rfl) (by rw [hn.cell]; rfl) (ha.later hal) (hb.later hal) hla hlb hsa hsb
  have hcs := costs_any va vb a b _ (ha.later hal) (hb.later hal) (by omega) (by omega)
  clear hn ha hb
  subst hva hvb
  go_enter Try.func48, Try.ntmps48
  go_wp2_with fail
  refine hf.mono ?_
  rintro e w' ⟨rfl, rfl⟩
  go_wp2_with fail
  refine hcs.mono ?_
  rintro e w1 ⟨G, H, rfl, ht, hb1⟩
  have hc1 := ht.1.cell (i := 0) (by omega)
  rw [if_pos (Nat.le_refl _)] at hc1
  have hc2 := (ht.2 0 (by omega) (by omega)).2.2.cell (i := 0) (by omega)
  have he : dD a b 0 0 = Dc.dc a b := by simp [dD]
  rw [he] at hc2
  clear ht he hf hcs
  go_wp2_with fail
  go_ret2
  exact ⟨rfl, bstep hal hb1⟩
end Go.Proofs.Ytpbpdglabeoehaa
