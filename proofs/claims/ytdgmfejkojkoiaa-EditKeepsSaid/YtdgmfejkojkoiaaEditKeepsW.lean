/-
  The walk of the law EditKeeps: whatever its input, it returns true and changes nothing that was there.
-/
import Derived.Test.YtdgmfejkojkoiaaMoved
namespace Go.Proofs.Ytdgmfejkojkoiaa
open Go.RowKit
set_option linter.unusedVariables false

theorem mv_mono (p c n i k : Nat) (h : i ≤ k) : mv p c n i true ≤ mv p c n k true := by
  unfold mv; simp only [if_true]; split <;> split <;> (try split) <;> (try split) <;> omega
theorem mv_in (p c n i : Nat) (h1 : p ≤ i) (h2 : i < p + c) : mv p c n i true = p + n := by
  unfold mv; rw [if_neg (by omega), if_neg (by omega)]; rfl
theorem mv_out (p c n i : Nat) (h : ¬ (p ≤ i ∧ i < p + c)) : mv p c n i true = if i < p then i else i + n - c := by
  unfold mv; simp only [if_true]; split
  · rfl
  · split
    · rfl
    · omega
theorem mk_byte (s : ByteArray) (d : Ed) (hd : d.p + d.c ≤ s.size) (i : Nat) (hi : i < s.size) (h : ¬ (d.p ≤ i ∧ i < d.p + d.c)) :
    mv d.p d.c d.put.size i true < (mk s d).size ∧ (mk s d).data.toList[mv d.p d.c d.put.size i true]? = s.data.toList[i]? := by
  have hl : s.data.toList.length = s.size := by simp
  have hpl : d.put.data.toList.length = d.put.size := by simp
  have h1 : (s.data.toList.take d.p).length = d.p := by simp; omega
  rw [mk_size s d hd, mv_out _ _ _ _ h, mk_list s d hd]
  by_cases hip : i < d.p
  · rw [if_pos hip]
    refine ⟨by omega, ?_⟩
    rw [List.append_assoc, List.getElem?_append_left (by omega), List.getElem?_take, if_pos hip]
  · rw [if_neg hip]
    refine ⟨by omega, ?_⟩
    rw [List.getElem?_append_right (by rw [List.length_append, h1, hpl]; omega), List.length_append, h1, hpl, List.getElem?_drop]
    congr 1; omega

set_option maxRecDepth 100000 in
set_option maxHeartbeats 4000000 in
theorem editKeeps_walk (w : World) (v0 : Value) (l : List Int) (h0 : Row .i64 w v0 l) (z : Chg × Value × Value × Value) (h1 : Chg1 w z.2.1 z.2.2.1 z.2.2.2 z.1) (at0 : Int) (hat : -9223372036854775808 ≤ at0 ∧ at0 ≤ 9223372036854775807) (ot : Int) (hot : -9223372036854775808 ≤ ot ∧ ot ≤ 9223372036854775807) :
    Calls Try.prog 3 #[v0, .agg #[z.2.1, z.2.2.1, z.2.2.2], .int .i64 at0, .int .i64 ot] w fun e w' => e = .returned (.bool true) ∧ Below w.heap.size w w' := by
  obtain ⟨x, u0, u1, u2⟩ := z
  simp only at h1 ⊢
  have h0' := h0.later ((Below.refl w.heap.size w).alloc (Nat.le_refl w.heap.size) (.cells #[u0, u1, u2] 24))
  have h1' := h1.later ((Below.refl w.heap.size w).alloc (Nat.le_refl w.heap.size) (.cells #[u0, u1, u2] 24))
  obtain ⟨rfl, rfl, hu2, _⟩ := h1
  obtain ⟨A2, c2, rfl, _⟩ := hu2
  generalize x.p = xp at *
  go_enter Try.func3, Try.ntmps3
  go_wp2_with fail
  refine (textOf_any v0 l 80 _ h0' (by omega) (by omega)).mono ?_
  rintro e w1 ⟨s0, rfl, es0, rfl⟩
  have ss0 := text_len _ _ _ es0; clear es0
  simp only [show Int.toNat 80 = 80 from rfl] at ss0
  go_wp2_with fail
  refine (editOf_any x _ _ _ s0.size _ h1' (by omega)).mono ?_
  rintro e w1 ⟨d, rfl, hd1, hd2, hd3, hb1⟩
  replace hb1 := bstep_alloc hb1
  have hsz : (s0 ++ ⟨#[120]⟩ : ByteArray).size = s0.size + 1 := by simp only [ByteArray.size_append, size_one]
  have hE := EdRow.lit (w1.alloc (Obj.cells #[.int .i64 (d.p : Int), .int .i64 (d.c : Int), .string d.put] 27)) 27 [d] (show 1 ≤ maxLen by decide)
  have hL : ((w1.alloc (Obj.cells #[.int .i64 (d.p : Int), .int .i64 (d.c : Int), .string d.put] 27)).alloc (Obj.cells #[.int .i64 (d.p : Int), .int .i64 (d.c : Int), .string d.put] 27)).cell? ⟨w1.heap.size, 0, none⟩ = some (.int .i64 (d.p : Int)) ∧ ((w1.alloc (Obj.cells #[.int .i64 (d.p : Int), .int .i64 (d.c : Int), .string d.put] 27)).alloc (Obj.cells #[.int .i64 (d.p : Int), .int .i64 (d.c : Int), .string d.put] 27)).cell? ⟨w1.heap.size, 1, none⟩ = some (.int .i64 (d.c : Int)) ∧ ((w1.alloc (Obj.cells #[.int .i64 (d.p : Int), .int .i64 (d.c : Int), .string d.put] 27)).alloc (Obj.cells #[.int .i64 (d.p : Int), .int .i64 (d.c : Int), .string d.put] 27)).cell? ⟨w1.heap.size, 2, none⟩ = some (.string d.put) := by simp [go_sem]
  have HL := Lib.hid hL
  have hok : okr (s0 ++ ⟨#[120]⟩ : ByteArray).size [d] := by rw [hsz]; exact ⟨by omega, by omega, trivial⟩
  have hbel : Below w.heap.size w ((w1.alloc (Obj.cells #[.int .i64 (d.p : Int), .int .i64 (d.c : Int), .string d.put] 27)).alloc (Obj.cells #[.int .i64 (d.p : Int), .int .i64 (d.c : Int), .string d.put] 27)) := (hb1.alloc hb1.size _).alloc (by have := hb1.size; simp; omega) _
  clear hL
  simp only [World.size_alloc] at hE
  have HSZ := Lib.hid hsz
  have hs600 : (s0 ++ ⟨#[120]⟩ : ByteArray).size ≤ 600 := by omega
  have hby := mk_byte (s0 ++ ⟨#[120]⟩) d (by omega)
  clear hsz
  have HBY := Lib.hid hby
  have HOK := Lib.hid hok
  have HSX := Lib.hid hs600
  clear hby hok hs600
  go_wp2_with fail
  refine (edited_any _ _ [d] _ hE HSX.out (show 1 ≤ 60 by decide) (by intro e he; simp at he; subst he; omega) HOK.out).mono ?_
  rintro e w2 ⟨rfl, hb2⟩
  obtain ⟨L0, L1, L2⟩ := three_below hb2 (by simp; omega) HL.out
  have s1 : w1.heap.size < w2.heap.size := by have := hb2.size; simp at this; omega
  have hbel2 := bstep hbel hb2
  clear hb2 hE HL hbel h0' h1' h0 hb1 HOK HSX
  obtain ⟨i, hie⟩ : ∃ i : Nat, at0 % ((s0.size : Int) + 1) = (i : Int) := ⟨(at0 % ((s0.size : Int) + 1)).toNat, by have := Int.emod_nonneg at0 (show (s0.size : Int) + 1 ≠ 0 by omega); omega⟩
  have hi : i ≤ s0.size := by have := Int.emod_lt_of_pos at0 (show 0 < (s0.size : Int) + 1 by omega); omega
  obtain ⟨k, hke⟩ : ∃ k : Nat, ot % ((s0.size : Int) + 1) = (k : Int) := ⟨(ot % ((s0.size : Int) + 1)).toNat, by have := Int.emod_nonneg ot (show (s0.size : Int) + 1 ≠ 0 by omega); omega⟩
  have hk : k ≤ s0.size := by have := Int.emod_lt_of_pos ot (show 0 < (s0.size : Int) + 1 by omega); omega
  have HI := Lib.hid hie
  have HK := Lib.hid hke
  clear hie hke
  go_wp2_with fail
  refine (picked_any at0 _ _ hat (by omega) (by omega)).mono ?_
  rintro e w' ⟨rfl, rfl⟩
  rw [HI.out]
  go_wp2_with fail
  refine (picked_any ot _ _ hot (by omega) (by omega)).mono ?_
  rintro e w' ⟨rfl, rfl⟩
  rw [HK.out]
  go_wp2_with fail
  refine (place_any d.p d.c d.put i true _ (by omega) (by omega) (by omega) (by omega)).mono ?_
  rintro e w3 ⟨rfl, hb3⟩
  obtain ⟨M0, M1, M2⟩ := three_below hb3 s1 ⟨L0, L1, L2⟩
  have s2 : w1.heap.size < w3.heap.size := Nat.lt_of_lt_of_le s1 hb3.size
  have hbel3 := bstep hbel2 hb3
  clear L0 L1 L2 hbel2 hb3
  go_wp2_with fail
  refine (place_any d.p d.c d.put k true _ (by omega) (by omega) (by omega) (by omega)).mono ?_
  rintro e w4 ⟨rfl, hb4⟩
  obtain ⟨N0, N1, N2⟩ := three_below hb4 s2 ⟨M0, M1, M2⟩
  have hbel4 := bstep hbel3 hb4
  clear M0 M1 M2 hbel3 hb4
  have hmono : i ≤ k → mv d.p d.c d.put.size i true ≤ mv d.p d.c d.put.size k true := mv_mono _ _ _ _ _
  have HMONO := Lib.hid hmono
  clear hmono
  have HIN := Lib.hid (mv_in d.p d.c d.put.size i)
  have hby2 := HBY.out i (by rw [HSZ.out]; omega)
  have HBY2 := Lib.hid hby2
  clear hby2 HBY
  have hts : (rn (s0 ++ ⟨#[120]⟩) [d]) = mk (s0 ++ ⟨#[120]⟩) d := rfl
  rw [hts]
  clear hts
  generalize mv d.p d.c d.put.size i true = pi at *
  generalize mv d.p d.c d.put.size k true = pk at *
  have hik : ¬ (i ≤ k ∧ pk < pi) := by intro ⟨h1, h2⟩; have := HMONO.out h1; omega
  by_cases hin : d.p ≤ i ∧ i < d.p + d.c
  · have hpi := HIN.out hin.1 hin.2
    obtain ⟨hin1, hin2⟩ := hin
    have hq : ((pi : Int) == (d.p : Int) + (d.put.size : Int)) = true := by simp; omega
    clear hpi
    by_cases hle : i ≤ k
    · have : ¬ pk < pi := fun h => hik ⟨hle, h⟩
      clear hik
      go_wp2_with fail
      go_ret
      exact ⟨ret_bool (by first | rfl | (simp; done)), hbel4⟩
    · clear hik
      go_wp2_with fail
      go_ret
      exact ⟨ret_bool (by first | rfl | (simp; done)), hbel4⟩
  · obtain ⟨hlt, hb⟩ := HBY2.out hin
    have hS := HSZ.out
    have hiS : i < (s0 ++ ⟨#[120]⟩ : ByteArray).size := by omega
    generalize mk (s0 ++ ⟨#[120]⟩) d = t at *
    generalize (s0 ++ ⟨#[120]⟩ : ByteArray) = S at *
    have hbe : t[pi] = S[i] := by
      have e1 : t.data.toList[pi]? = some t[pi] := by rw [List.getElem?_eq_getElem (by simpa using hlt)]; rfl
      have e2 : S.data.toList[i]? = some S[i] := by rw [List.getElem?_eq_getElem (by simpa using hiS)]; rfl
      rw [e1, e2] at hb; injection hb
    have hq : ((t[pi].toNat : Int) == (S[i].toNat : Int)) = true := by rw [hbe]; simp
    have j0 : (0 : Int) ≤ (pi : Int) := Int.natCast_nonneg _
    have j1 : (pi : Int) < (t.size : Int) := by omega
    have j2 : (0 : Int) ≤ (i : Int) := Int.natCast_nonneg _
    have j3 : (i : Int) < (S.size : Int) := by omega
    have HBE := Lib.hid hbe
    clear hbe hb hS
    have hout : i < d.p ∨ d.p + d.c ≤ i := by omega
    clear hin
    rcases hout with hin | hin
    · skip
      by_cases hle : i ≤ k
      · have : ¬ pk < pi := fun h => hik ⟨hle, h⟩
        clear hik
        go_wp2_with fail
        go_quiet (fail)
        go_wp2
        go_ret
        exact ⟨ret_bool (by first | rfl | (simp; done)), below_drewN hbel4 _⟩
      · clear hik
        go_wp2_with fail
        go_quiet (fail)
        go_wp2
        go_ret
        exact ⟨ret_bool (by first | rfl | (simp; done)), below_drewN hbel4 _⟩
    · have hin2 : d.p ≤ i := by omega
      by_cases hle : i ≤ k
      · have : ¬ pk < pi := fun h => hik ⟨hle, h⟩
        clear hik
        go_wp2_with fail
        go_quiet (fail)
        go_wp2
        go_ret
        exact ⟨ret_bool (by first | rfl | (simp; done)), below_drewN hbel4 _⟩
      · clear hik
        go_wp2_with fail
        go_quiet (fail)
        go_wp2
        go_ret
        exact ⟨ret_bool (by first | rfl | (simp; done)), below_drewN hbel4 _⟩
end Go.Proofs.Ytdgmfejkojkoiaa
