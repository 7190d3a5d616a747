/-
  The walk of the law LinesJoin: whatever its input, it returns true and changes nothing that was there.
-/
import Derived.Test.YtamgnmhiglkagaaLines
import Derived.BigQuiet
import Derived.Deep.QuietTactic
namespace Go.Proofs.Ytamgnmhiglkagaa
open Go.RowKit
set_option linter.unusedVariables false

theorem text_len (xs : List Int) (n : Nat) (s : ByteArray) (h : s.data.toList = (xs.take n).map letter) : s.size ≤ n := by
  have h2 : s.data.toList.length = s.size := by simp
  rw [← h2, h]; simp; omega

set_option maxRecDepth 100000 in
set_option maxHeartbeats 2000000 in
theorem linesJoin_walk (w : World) (v0 : Value) (l : List Int) (h0 : Row .i64 w v0 l) (v1 : Value) (m : List Int) (h1 : Row .i64 w v1 m) :
    Calls Try.prog 4 #[v0, v1] w fun e w' => e = .returned (.bool true) ∧ Below w.heap.size w w' := by
  go_enter Try.func4, Try.ntmps4
  go_wp2_with fail
  refine (textOf_any v0 l 80 _ h0 (by omega) (by omega)).mono ?_
  rintro e w1 ⟨s, rfl, es, rfl⟩
  have ss := text_len _ _ _ es; clear es
  go_wp2_with fail
  refine (textOf_any v1 m 80 _ h1 (by omega) (by omega)).mono ?_
  rintro e w1 ⟨t, rfl, et, rfl⟩
  have st := text_len _ _ _ et; clear et
  simp only [show Int.toNat 80 = 80 from rfl] at ss st
  go_wp2_with fail
  refine (Starts_any s _ (by omega)).mono ?_
  rintro e w1 ⟨vx, rfl, hx, hb1⟩
  go_wp2_with fail
  refine (Starts_any t _ (by omega)).mono ?_
  rintro e w2 ⟨vy, rfl, hy, hb2⟩
  go_wp2_with fail
  refine (Starts_any (s ++ t) _ (by simp only [ByteArray.size_append]; omega)).mono ?_
  rintro e w3 ⟨vz, rfl, hz, hb3⟩
  replace hx := (hx.later hb2).later hb3
  replace hy := hy.later hb3
  have hbel := bstep (bstep hb1 hb2) hb3
  clear hb1 hb2 hb3 h0 h1
  have hxy : starts (s ++ t).data.toList = starts s.data.toList ++ (starts t.data.toList).tail.map (· + (s.size : Int)) := by
    rw [append_data]; unfold starts; rw [nls_append]
    have e1 : s.data.toList.length = s.size := by simp
    rw [e1, Int.zero_add]
    have := nls_shift t.data.toList 0 (s.size : Int)
    rw [Int.zero_add] at this
    rw [this]; rfl
  have lx := starts_len s.data.toList
  have ly := starts_len t.data.toList
  have e1 : s.data.toList.length = s.size := by simp
  have e2 : t.data.toList.length = t.size := by simp
  rw [e1] at lx
  rw [e2] at ly
  have lx0 : 0 < (starts s.data.toList).length := by simp [starts]
  have ly0 : 0 < (starts t.data.toList).length := by simp [starts]
  clear e1 e2
  rw [hxy] at hz
  clear hxy
  have by_ := hy.bd
  have hyb : ∀ i, (starts t.data.toList).getD i 0 ≤ 1000 := by
    intro i
    by_cases hi : i < (starts t.data.toList).length
    · have hm : (starts t.data.toList).getD i 0 ∈ starts t.data.toList := by simp [List.getD, hi]
      have e2 : t.data.toList.length = t.size := by simp
      simp only [starts, List.mem_cons] at hm
      rcases hm with h | h
      · simp only [starts]; omega
      · have := nls_bd _ _ _ h; simp only [starts]; omega
    · simp [List.getD, List.getElem?_eq_none (show (starts t.data.toList).length ≤ i by omega)]
  generalize starts s.data.toList = X at *
  generalize starts t.data.toList = Y at *
  have lz : (X ++ Y.tail.map (· + (s.size : Int))).length = X.length + Y.length - 1 := by simp; omega
  have hzx : ∀ i, i < X.length → (X ++ Y.tail.map (· + (s.size : Int))).getD i 0 = X.getD i 0 := by
    intro i hi; simp [List.getD, List.getElem?_append_left hi]
  have hzy : ∀ i, X.length ≤ i → i < X.length + Y.length - 1 → (X ++ Y.tail.map (· + (s.size : Int))).getD i 0 = Y.getD (i - X.length + 1) 0 + s.size := by
    intro i hi hi2
    have h3 : i - X.length + 1 < Y.length := by omega
    simp [List.getD, List.getElem?_append_right hi, h3]
  generalize X ++ Y.tail.map (· + (s.size : Int)) = Z at *
  obtain ⟨Ax, cx, rfl, hlx, hcx, _, rx⟩ := hx
  obtain ⟨Ay, cy, rfl, hly, hcy, _, ry⟩ := hy
  obtain ⟨Az, cz, rfl, hlz, hcz, _, rz⟩ := hz
  have HL := Lib.hid lz
  have HX := Lib.hid hzx
  have HY := Lib.hid hzy
  have lz1 : Z.length ≤ X.length + Y.length - 1 := by omega
  have lz2 : X.length + Y.length - 1 ≤ Z.length := by omega
  have dl1 : decide ((X.length : Int) < 1) = false := by simp; omega
  have dl2 : decide ((Y.length : Int) < 1) = false := by simp; omega
  have dl3 : ((Z.length : Int) != (X.length : Int) + (Y.length : Int) - 1) = false := by simp; omega
  clear lz hzx hzy
  go_wp2_with fail
  unfold maxLen at hcx hcy hcz
  go_loopw [13] (fun i wr => ∃ k n : Nat, k ≤ Z.length ∧ i = .int .i64 k ∧ wr = w3.drewN n) (fun i _ => Z.length - (intOf i).toNat)
  case atStart => exact ⟨0, 0, Nat.zero_le _, rfl, rfl⟩
  case round =>
    obtain ⟨k, n, hk, rfl, rfl⟩ := hrel
    by_cases hlt : k < Z.length
    · obtain ⟨bz, oz, rfl, _, cz'⟩ := Row.at_ rz hlt
      by_cases hx : k < X.length
      · obtain ⟨bx, ox, rfl, _, cx'⟩ := Row.at_ rx hx
        rw [HX.out k hx] at cz'
        have hdx : decide ((k : Int) < (X.length : Int)) = true := by simp; omega
        have hdx2 : decide (X.length ≤ k) = false := by simp; omega
        have hdx3 : decide (k < X.length) = true := by simp; omega
        generalize X.getD k 0 = x at *
        have hne : (x != x) = false := by simp
        have i0 : (0 : Int) ≤ (k : Int) := Int.natCast_nonneg _
        have i1 : (k : Int) < (Z.length : Int) := by omega
        have i2 : (k : Int) < (X.length : Int) := by omega
        go_wp2
        go_quiet (fail)
        go_wp2
        go_roundw
        case rel => exact ⟨k + 1, _, by omega, by go_num, rfl⟩
        case measure => simp [intOf]; omega
      · have hy : k - X.length + 1 < Y.length := by omega
        obtain ⟨by0, oy, rfl, _, cy'⟩ := Row.at_ ry hy
        rw [HY.out k (by omega) (by omega)] at cz'
        have hdx : decide ((k : Int) < (X.length : Int)) = false := by simp; omega
        have hdx2 : decide (X.length ≤ k) = true := by simp; omega
        have hdx3 : decide (k < X.length) = false := by simp; omega
        have hbd := by_ (k - X.length + 1)
        have hybd : Y.getD (k - X.length + 1) 0 ≤ 1000 := hyb _
        generalize Y.getD (k - X.length + 1) 0 = y at *
        have hne : (y + (s.size : Int) != y + (s.size : Int)) = false := by simp
        have i0 : (0 : Int) ≤ (k : Int) := Int.natCast_nonneg _
        have i1 : (k : Int) < (Z.length : Int) := by omega
        go_wp2
        go_quiet (fail)
        go_wp2
        go_roundw
        case rel => exact ⟨k + 1, _, by omega, by go_num, rfl⟩
        case measure => simp [intOf]; omega
    · go_wp2
      go_ret
      exact ⟨rfl, below_drewN hbel _⟩
end Go.Proofs.Ytamgnmhiglkagaa
