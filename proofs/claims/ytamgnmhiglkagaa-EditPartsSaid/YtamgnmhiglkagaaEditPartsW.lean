/-
  The walk of the law EditParts: whatever its input, it returns true and changes nothing that was there.
-/
import Derived.Test.YtamgnmhiglkagaaEdits
namespace Go.Proofs.Ytamgnmhiglkagaa
open Go.RowKit
set_option linter.unusedVariables false

theorem vld_put (l : List Ed) : ∀ n, vld n l → ∀ e ∈ l, e.put.size ≤ 600 := by
  induction l with
  | nil => intro n _ e he; simp at he
  | cons d l ih =>
    intro n h e he
    obtain ⟨h1, h2, h3, h4⟩ := h
    simp only [List.mem_cons] at he
    rcases he with rfl | he
    · omega
    · exact ih _ h4 e he

set_option maxRecDepth 100000 in
set_option maxHeartbeats 2000000 in
theorem editParts_walk (w : World) (v0 : Value) (l : List Int) (h0 : Row .i64 w v0 l) (v1 : Value) (cs : List Chg) (h1 : Chgs w v1 cs) (cut : Int) (hcut : -9223372036854775808 ≤ cut ∧ cut ≤ 9223372036854775807) :
    Calls Try.prog 7 #[v0, v1, .int .i64 cut] w fun e w' => e = .returned (.bool true) ∧ Below w.heap.size w w' := by
  go_enter Try.func7, Try.ntmps7
  go_wp2_with fail
  refine (textOf_any v0 l 100 _ h0 (by omega) (by omega)).mono ?_
  rintro e w1 ⟨s, rfl, es0, rfl⟩
  have ss := text_len _ _ _ es0; clear es0
  simp only [show Int.toNat 100 = 100 from rfl] at ss
  go_wp2_with fail
  refine (edits_any v1 cs 15 s.size _ h1 (by omega) (by omega)).mono ?_
  rintro e w1 ⟨ve, es, rfl, he, hv, hl, hb1⟩
  have ho := okr_of_vld es _ hv (by omega)
  have hp := vld_put es _ hv
  obtain ⟨A, c, rfl, hlc, hc, hr⟩ := id he
  unfold maxLen at hc
  obtain ⟨k, hk⟩ : ∃ k : Nat, cut % ((es.length : Int) + 1) = (k : Int) := ⟨(cut % ((es.length : Int) + 1)).toNat, by have := Int.emod_nonneg cut (show (es.length : Int) + 1 ≠ 0 by omega); omega⟩
  have hkl : k ≤ es.length := by have := Int.emod_lt_of_pos cut (show 0 < (es.length : Int) + 1 by omega); omega
  have HK := Lib.hid hk
  clear hk
  go_wp2_with fail
  refine (picked_any cut _ _ hcut (by omega) (by omega)).mono ?_
  rintro e w' ⟨rfl, rfl⟩
  rw [HK.out]
  go_wp2_with fail
  refine (edited_any s _ es _ he (by omega) (by omega) hp ho).mono ?_
  rintro e w2 ⟨rfl, hb2⟩
  have hot := okr_append (es.take k) (es.drop k) s.size
  rw [List.take_append_drop] at hot
  have ho2 := hot.1 ho
  have hlt : (es.take k).length ≤ 60 := by rw [List.length_take]; omega
  have hld : (es.drop k).length ≤ 60 := by rw [List.length_drop]; omega
  have hst := rn_size (es.take k) s ho2.1
  have h600 := sized_600 (es.take k) s.size (by omega) ho2.1
  rw [← hst] at ho2 h600
  have hrn := rn_append (es.take k) (es.drop k) s
  rw [List.take_append_drop] at hrn
  have HR := Lib.hid hrn
  clear hrn hst hot
  go_wp2_with fail
  refine (edited_any s _ (es.take k) _ ((he.take hkl).later hb2) (by omega) hlt (fun e h => hp e (List.mem_of_mem_take h)) ((okr_append (es.take k) (es.drop k) s.size).1 (by rw [List.take_append_drop]; exact ho)).1).mono ?_
  rintro e w3 ⟨rfl, hb3⟩
  go_wp2_with fail
  · have hd := he.drop hkl
    have hck : c = k := by assumption
    rw [if_pos hck, hck, Nat.sub_self] at hd
    refine (edited_any (rn s (es.take k)) _ (es.drop k) _ ((hd.later hb2).later hb3) h600 hld (fun e h => hp e (List.mem_of_mem_drop h)) ho2.2).mono ?_
    rintro e w4 ⟨rfl, hb4⟩
    rw [← HR.out]
    go_wp2_with fail
    go_ret
    exact ⟨ret_bool (by simp), bstep (bstep (bstep hb1 hb2) hb3) hb4⟩
  · have hd := he.drop hkl
    rw [if_neg (by assumption)] at hd
    refine (edited_any (rn s (es.take k)) _ (es.drop k) _ ((hd.later hb2).later hb3) h600 hld (fun e h => hp e (List.mem_of_mem_drop h)) ho2.2).mono ?_
    rintro e w4 ⟨rfl, hb4⟩
    rw [← HR.out]
    go_wp2_with fail
    go_ret
    exact ⟨ret_bool (by simp), bstep (bstep (bstep hb1 hb2) hb3) hb4⟩
end Go.Proofs.Ytamgnmhiglkagaa
