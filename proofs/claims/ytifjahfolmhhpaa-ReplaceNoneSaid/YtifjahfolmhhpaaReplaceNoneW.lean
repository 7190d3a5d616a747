/-
  The walk of ReplaceNone: at every input it returns true, and nothing that was there is changed.
-/
import Derived.Test.YtifjahfolmhhpaaRepl
import Derived.Test.YtifjahfolmhhpaaFindB
namespace Go.Proofs.Ytifjahfolmhhpaa
open Go.RowKit Fnd
set_option linter.unusedVariables false

set_option maxRecDepth 100000 in
set_option maxHeartbeats 4000000 in
theorem replaceNone_walk (w : World) (v0 : Value) (l : List Int) (h0 : Row .i64 w v0 l) (v1 : Value) (m : List Int) (h1 : Row .i64 w v1 m) :
    Calls Try.prog 12 #[v0, v1] w fun e w' => e = .returned (.bool true) ∧ Below w.heap.size w w' := by
  have HH1 := Lib.hid h1
  clear h1
  go_enter Try.func12, Try.ntmps12
  go_wp2_with fail
  refine (few_any v0 l 80 _ h0 (by omega) (by omega)).mono ?_
  rintro e w1 ⟨s, rfl, hs0, k1⟩
  have hs2 : s.size ≤ 80 := by
    have : s.data.toList.length ≤ 80 := by rw [hs0]; simp; omega
    simpa using this
  clear hs0 h0
  go_wp2_with fail
  refine (few_any v1 m 3 _ (HH1.out.later k1) (by omega) (by omega)).mono ?_
  rintro e w2 ⟨f0, rfl, hf0, hb2⟩
  have k2 := bstep k1 hb2
  have hfz0 : f0.size ≤ 3 := by
    have : f0.data.toList.length ≤ 3 := by rw [hf0]; simp; omega
    simpa using this
  have hfz : (f0 ++ ⟨#[97, 98]⟩).size = f0.size + 2 := by rw [ByteArray.size_append]; rfl
  have hnh : (35 : UInt8) ∉ (f0 ++ ⟨#[97, 98]⟩).data.toList := by
    have := hash_not hf0
    rw [show (f0 ++ (⟨#[97, 98]⟩ : ByteArray)).data.toList = f0.data.toList ++ [97, 98] by simp [ByteArray.data_append]]
    intro h
    rcases List.mem_append.1 h with h | h
    · exact this h
    · simp at h
  have HNH := Lib.hid hnh
  clear hf0 HH1 k1 hb2 hnh
  go_wp2_with fail
  generalize hS : f0 ++ ⟨#[97, 98]⟩ = f at *
  have hf1 : 0 < f.size := by omega
  have hf2 : f.size ≤ 5 := by omega
  clear hS hfz hfz0
  refine (replace_any s f f _ (by omega) hf1 (by omega) (by omega)).mono ?_
  rintro e w3 ⟨rfl, hb3⟩
  have k3 := bstep k2 hb3
  clear k2 hb3
  rw [of_list s _ (repl_self s f hf1)]
  have HNO := Lib.hid (repl_none s f ⟨#[35]⟩ hf1 35 rfl HNH.out)
  have hnl : (segs s f).1.length ≤ (occ s f).length := sg_le _ _ _ _
  have hnp : 0 < (segs s f).1.length ↔ 0 < (occ s f).length := sg_pos _ _ _
  have hoz : (occ s f).length ≤ s.size := oc_len _ _ _ _
  obtain ⟨z1, z2⟩ := repl_size s f ⟨#[35]⟩ hf1
  have hS1 : (⟨#[35]⟩ : ByteArray).size = 1 := rfl
  rw [hS1] at z2
  have hzz := Nat.le_mul_of_pos_right (segs s f).1.length hf1
  have HZ := Lib.hid (show (repl s f ⟨#[35]⟩).length ≤ 80 by omega)
  have HN : Hid (∀ n, (segs s f).1.length = n → (n ≤ (occ s f).length ∧ (decide (0 < n) == decide (0 < (occ s f).length)) = true)) := Lib.hid (fun n hn => by
    rw [hn] at hnl hnp
    refine ⟨hnl, ?_⟩
    rw [beq_iff_eq, decide_eq_decide]; exact hnp)
  have HFS := Lib.hid findSure_any
  have hss : (s.toList == s.toList) = true := bytes_eq rfl
  clear hnl hnp z1 z2 hS1 hzz
  go_wp2_with fail
  refine (replace_any s f ⟨#[35]⟩ _ (by omega) hf1 (by omega) (by decide)).mono ?_
  rintro e w4 ⟨rfl, hb4⟩
  have k4 := bstep k3 hb4
  clear k3 hb4
  obtain ⟨t, ht⟩ : ∃ t : ByteArray, t = ⟨(repl s f ⟨#[35]⟩).toArray⟩ := ⟨_, rfl⟩
  have hts : t.size ≤ 80 := by rw [ht]; exact HZ.out
  have hno : occ t f = [] := by rw [ht]; exact HNO.out
  rw [← ht]
  have HNO := Lib.hid hno
  clear ht HZ hno
  go_wp2_with fail
  refine (all_any t f _ (by omega) (by omega) hf1).mono ?_
  rintro e w5 ⟨v5, rfl, hrow, hb5⟩
  have k5 := bstep k4 hb5
  obtain ⟨A, c, rfl, hlA, hcA, _, _⟩ := hrow
  unfold maxLen at hcA
  rw [natI_len, HNO.out] at hlA ⊢
  clear k4 hb5
  go_wp2_with fail
  refine (all_any s f _ (by omega) (by omega) hf1).mono ?_
  rintro e w6 ⟨v6, rfl, hrow6, hb6⟩
  have k6 := bstep k5 hb6
  obtain ⟨A6, c6, rfl, hlA6, hcA6, _, _⟩ := hrow6
  unfold maxLen at hcA6
  rw [natI_len] at hlA6 ⊢
  obtain ⟨hn1, hn2⟩ := HN.out _ rfl
  generalize (segs s f).1.length = n at *
  generalize (occ s f).length = k at *
  have hn3 : (decide ((0 : Int) < (n : Int)) == decide ((0 : Int) < (k : Int))) = true := by
    have e1 : decide ((0 : Int) < (n : Int)) = decide (0 < n) := by rw [decide_eq_decide]; omega
    have e2 : decide ((0 : Int) < (k : Int)) = decide (0 < k) := by rw [decide_eq_decide]; omega
    rw [e1, e2]; exact hn2
  have hn4 : decide ((n : Int) ≤ (k : Int)) = true := by simp; omega
  clear k5 hb6 HN
  go_wp2_with fail
  refine (HFS.out _).mono ?_
  rintro e w7 ⟨rfl, hb7⟩
  have k7 := bstep k6 hb7
  clear k6 hb7
  go_wp2_with fail
  go_ret
  exact ⟨rfl, k7⟩
end Go.Proofs.Ytifjahfolmhhpaa
