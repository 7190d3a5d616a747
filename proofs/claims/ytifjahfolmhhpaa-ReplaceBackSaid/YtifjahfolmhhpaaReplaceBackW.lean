/-
  The walk of ReplaceBack: at every input it returns true, and nothing that was there is changed.
-/
import Derived.Test.YtifjahfolmhhpaaRepl
import Derived.Test.YtifjahfolmhhpaaFindB
namespace Go.Proofs.Ytifjahfolmhhpaa
open Go.RowKit Fnd
set_option linter.unusedVariables false

set_option maxRecDepth 100000 in
set_option maxHeartbeats 4000000 in
theorem replaceBack_walk (w : World) (v0 : Value) (l : List Int) (h0 : Row .i64 w v0 l) (v1 : Value) (m : List Int) (h1 : Row .i64 w v1 m) :
    Calls Try.prog 11 #[v0, v1] w fun e w' => e = .returned (.bool true) ∧ Below w.heap.size w w' := by
  have HH1 := Lib.hid h1
  clear h1
  go_enter Try.func11, Try.ntmps11
  go_wp2_with fail
  refine (few_any v0 l 60 _ h0 (by omega) (by omega)).mono ?_
  rintro e w1 ⟨s, rfl, hs0, k1⟩
  have hs2 : s.size ≤ 60 := by
    have : s.data.toList.length ≤ 60 := by rw [hs0]; simp; omega
    simpa using this
  have hnh := hash_not hs0
  have HNH := Lib.hid hnh
  clear hs0 h0 hnh
  go_wp2_with fail
  refine (few_any v1 m 3 _ (HH1.out.later k1) (by omega) (by omega)).mono ?_
  rintro e w2 ⟨f0, rfl, hf0, hb2⟩
  have k2 := bstep k1 hb2
  have hfz0 : f0.size ≤ 3 := by
    have : f0.data.toList.length ≤ 3 := by rw [hf0]; simp; omega
    simpa using this
  have hfz : (f0 ++ ⟨#[98]⟩).size = f0.size + 1 := by rw [ByteArray.size_append]; rfl
  clear hf0 HH1 k1 hb2
  go_wp2_with fail
  generalize hS : f0 ++ ⟨#[98]⟩ = f at *
  have hf1 : 0 < f.size := by omega
  have hf2 : f.size ≤ 4 := by omega
  clear hS hfz hfz0
  refine (replace_any s f ⟨#[35]⟩ _ (by omega) hf1 (by omega) (by decide)).mono ?_
  rintro e w3 ⟨rfl, hb3⟩
  have k3 := bstep k2 hb3
  clear k2 hb3
  obtain ⟨q1, q2, q3⟩ := repl_back s f ⟨#[35]⟩ hf1 35 rfl HNH.out
  obtain ⟨z1, z2⟩ := repl_size s f ⟨#[35]⟩ hf1
  obtain ⟨t, ht⟩ : ∃ t : ByteArray, t = ⟨(repl s f ⟨#[35]⟩).toArray⟩ := ⟨_, rfl⟩
  have hts : t.size = (repl s f ⟨#[35]⟩).length := by rw [ht]; rfl
  have hS1 : (⟨#[35]⟩ : ByteArray).size = 1 := rfl
  rw [hS1, ← hts] at z2
  rw [← ht] at q1 q2 q3 ⊢
  generalize (repl s f ⟨#[]⟩).length = e0 at *
  have hnn : (segs s f).1.length ≤ s.size := by
    have := Nat.le_mul_of_pos_right (segs s f).1.length hf1
    omega
  have hq1 : (segs t ⟨#[35]⟩).1.length = (segs s f).1.length := by rw [q1]
  generalize (segs s f).1.length = n at *
  have hprod : (n : Int) * ((f.size : Int) - 1) = (s.size : Int) - (t.size : Int) := by
    have : ((s.size : Nat) : Int) = (e0 : Int) + (n : Int) * (f.size : Int) := by rw [z1]; simp
    rw [Int.mul_sub, this, z2]; simp; omega
  have htz : t.size ≤ s.size := by
    have := Nat.le_mul_of_pos_right n hf1
    omega
  have hfin : (((t.size : Int)) == (s.size : Int) - (n : Int) * ((f.size : Int) - 1)) = true := by rw [beq_iff_eq, hprod]; omega
  have hp0 : 0 ≤ (n : Int) * ((f.size : Int) - 1) := by rw [hprod]; omega
  have hp1 : (n : Int) * ((f.size : Int) - 1) ≤ 1000 := by rw [hprod]; omega
  have hu := of_list s _ q2
  have HQ1 := Lib.hid hq1
  have HQ3 := Lib.hid q3
  have HU := Lib.hid hu
  have HFS := Lib.hid findSure_any
  clear ht hts hS1 z1 z2 q1 q2 q3 hq1 hprod hu
  go_wp2_with fail
  refine (replace_any t ⟨#[35]⟩ f _ (by omega) (by decide) (by decide) (by omega)).mono ?_
  rintro e w4 ⟨rfl, hb4⟩
  have k4 := bstep k3 hb4
  rw [HQ1.out, HU.out]
  clear k3 hb4
  go_wp2_with fail
  refine (all_any t ⟨#[35]⟩ _ (by omega) (by decide) (by decide)).mono ?_
  rintro e w5 ⟨v5, rfl, hrow, hb5⟩
  have k5 := bstep k4 hb5
  obtain ⟨A, c, rfl, hlA, hcA, _, _⟩ := hrow
  unfold maxLen at hcA
  rw [natI_len, HQ3.out] at hlA ⊢
  clear k4 hb5
  have hss : (s.toList == s.toList) = true := bytes_eq rfl
  go_wp2_with fail
  refine (HFS.out _).mono ?_
  rintro e w6 ⟨rfl, hb6⟩
  have k6 := bstep k5 hb6
  clear k5 hb6
  go_wp2_with fail
  go_ret
  exact ⟨rfl, k6⟩
end Go.Proofs.Ytifjahfolmhhpaa
