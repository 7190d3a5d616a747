/-
  The walk of the law WordsEdge: whatever the slice and the number, it returns true and changes nothing that was there.
-/
import Derived.Test.YtpgjjnbepkofdaaWrdO
import Derived.Test.YtpgjjnbepkofdaaFew
import Derived.Test.YtpgjjnbepkofdaaSame
import Derived.Test.YtpgjjnbepkofdaaPick
namespace Go.Proofs.Ytpgjjnbepkofdaa
open Go.RowKit
set_option linter.unusedVariables false
set_option linter.unusedSimpArgs false

theorem edge_places (l : List UInt8) (h : ∀ c ∈ l, partB c = true) (h1 : l ≠ []) (h2 : l.length ≤ 11) :
    placesOf (wdsA ((98 :: l) ++ 32 :: ((l ++ [98]) ++ 32 :: (l ++ 10 :: l))) [] 0) l = [((2 * l.length + 4 : Nat) : Int), ((3 * l.length + 5 : Nat) : Int)] := by
  have hb : ∀ c ∈ (98 :: l), partB c = true := fun c hc => by
    rcases List.mem_cons.1 hc with rfl | hc
    · decide
    · exact h c hc
  have hb2 : ∀ c ∈ (l ++ [98]), partB c = true := fun c hc => by
    rcases List.mem_append.1 hc with hc | hc
    · exact h c hc
    · rw [List.mem_singleton.1 hc]; decide
  rw [wdsA_sep _ _ _ _ _ (by decide), wdsA_run _ _ _ hb, wdsA_sep _ _ _ _ _ (by decide), wdsA_run _ _ _ hb2, wdsA_sep _ _ _ _ _ (by decide), wdsA_run _ _ _ h, wdsA_run _ _ _ h]
  simp only [List.nil_append]
  rw [placesOf_append, placesOf_append, placesOf_append, placesOf_emit _ _ _ (by simp) (by simp; omega), placesOf_emit _ _ _ (by simp) (by simp; omega), placesOf_emit _ _ _ h1 (by omega), placesOf_emit _ _ _ h1 (by omega)]
  rw [if_neg (fun e => by have := congrArg List.length e; simp at this), if_neg (fun e => by have := congrArg List.length e; simp at this), if_pos rfl, if_pos rfl]
  simp only [List.nil_append, List.length_cons, List.length_append, List.length_nil, List.cons_append]
  congr 2
  · omega
  · congr 1
    omega
theorem edge_one (l : List UInt8) (h : ∀ c ∈ l, partB c = true) (h1 : l ≠ []) (h2 : l.length ≤ 12) : placesOf (wdsA l [] 0) l = [0] := by
  rw [wdsA_run _ _ _ h, List.nil_append, placesOf_emit _ _ _ h1 h2, if_pos rfl]
  rfl
theorem ab_part (l : List Int) : ∀ c ∈ l.map ab, partB c = true := by
  intro c hc
  obtain ⟨x, _, rfl⟩ := List.mem_map.1 hc
  unfold ab
  split <;> decide
theorem part_app {a b : ByteArray} (ha : ∀ c ∈ a.data.toList, partB c = true) (hb : ∀ c ∈ b.data.toList, partB c = true) : ∀ c ∈ (a ++ b).data.toList, partB c = true := by
  intro c hc
  rw [ByteArray.data_append, Array.toList_append] at hc
  exact (List.mem_append.1 hc).elim (ha c) (hb c)
theorem part_ext {a : ByteArray} (i j : Nat) (ha : ∀ c ∈ a.data.toList, partB c = true) : ∀ c ∈ (a.extract i j).data.toList, partB c = true := by
  intro c hc
  rw [bytes_cut] at hc
  exact ha c (List.mem_of_mem_take (List.mem_of_mem_drop hc))
theorem a_part : ∀ c ∈ (⟨#[97]⟩ : ByteArray).data.toList, partB c = true := by decide
theorem one_size (c : UInt8) : (⟨#[c]⟩ : ByteArray).size = 1 := rfl
theorem edge_text (s : ByteArray) : (((((((⟨#[98]⟩ ++ s) ++ ⟨#[32]⟩) ++ s) ++ ⟨#[98, 32]⟩) ++ s) ++ ⟨#[10]⟩) ++ s : ByteArray).data.toList = (98 :: s.data.toList) ++ 32 :: ((s.data.toList ++ [98]) ++ 32 :: (s.data.toList ++ 10 :: s.data.toList)) := by
  simp only [ByteArray.data_append, Array.toList_append, List.append_assoc, List.cons_append, List.nil_append]
/-- A word of the law. -/
structure EdgeS (s : ByteArray) : Prop where
  pos : 1 ≤ s.size
  le : s.size ≤ 11
  part : ∀ c ∈ s.data.toList, partB c = true
theorem EdgeS.ne {s : ByteArray} (h : EdgeS s) : s.data.toList ≠ [] := fun e => by
  have h1 := h.pos
  have : s.data.toList.length = s.size := by simp
  rw [e] at this
  simp at this
  omega
set_option maxRecDepth 100000 in
set_option maxHeartbeats 8000000 in
theorem wordsEdge_walk (w : World) (v0 : Value) (l : List Int) (h0 : Row .i64 w v0 l) (n : Int) (hk : -9223372036854775808 ≤ n ∧ n ≤ 9223372036854775807) :
    Calls Try.prog 6 #[v0, .int .i64 n] w fun e w' => e = .returned (.bool true) ∧ Below w.heap.size w w' := by
  have hp := Lib.hid (fun W => picked_any n 2 W hk (by omega) (by omega))
  have hm := Int.emod_nonneg n (show (2 : Int) ≠ 0 by omega)
  have hm2 := Int.emod_lt_of_pos n (show (0 : Int) < 2 by omega)
  generalize n % 2 = y at *
  go_enter Try.func6, Try.ntmps6
  go_wp2_with fail
  refine (few_any v0 l 10 _ h0 (by omega) (by omega)).mono ?_
  rintro e w1 ⟨x, rfl, hx, hb1⟩
  have hxl : x.size ≤ 10 := by
    have : x.data.toList.length = x.size := by simp
    rw [hx, List.length_map, List.length_take] at this
    omega
  have hxp : ∀ c ∈ x.data.toList, partB c = true := by rw [hx]; exact ab_part _
  have HX := Lib.hid hxp
  have HB1 := Lib.hid hb1
  clear hxp hx hb1 h0
  go_wp2_with fail
  refine (hp.out _).mono ?_
  rintro e w' ⟨rfl, rfl⟩
  clear hp
  have PX := Lib.hid (part_app HX.out a_part)
  have zx : (x ++ ⟨#[97]⟩ : ByteArray).size = x.size + 1 := by rw [ByteArray.size_append, one_size]
  rcases (show y = 0 ∨ y = 1 by omega) with rfl | rfl
  · have zy : (⟨#[97]⟩ ++ (x ++ ⟨#[97]⟩) : ByteArray).size = 1 + (x.size + 1) := by rw [ByteArray.size_append, one_size, zx]
    rcases Nat.lt_or_ge x.size 10 with h10 | h10
    · have hS : EdgeS (⟨#[97]⟩ ++ (x ++ ⟨#[97]⟩)) := ⟨by omega, by omega, part_app a_part PX.out⟩
      have q1 : decide (12 ≤ ((⟨#[97]⟩ ++ (x ++ ⟨#[97]⟩) : ByteArray).size : Int)) = false := decide_eq_false (by omega)
      go_wp2_with fail
      generalize (⟨#[97]⟩ ++ (x ++ ⟨#[97]⟩) : ByteArray) = s at *
      clear zy q1 zx PX
      have HS : Hid (EdgeS s) := Lib.hid hS
      have hs1 := HS.out.pos
      have hs2 := HS.out.le
      have hsl : s.data.toList.length = s.size := by simp
      have tx := edge_text s
      have tz : (((((((⟨#[98]⟩ ++ s) ++ ⟨#[32]⟩) ++ s) ++ ⟨#[98, 32]⟩) ++ s) ++ ⟨#[10]⟩) ++ s : ByteArray).size ≤ 600 := by
        rw [ByteArray.size_append, ByteArray.size_append, ByteArray.size_append, ByteArray.size_append, ByteArray.size_append, ByteArray.size_append, ByteArray.size_append, one_size, one_size, one_size, show (⟨#[98, 32]⟩ : ByteArray).size = 2 from rfl]
        omega
      generalize (((((((⟨#[98]⟩ ++ s) ++ ⟨#[32]⟩) ++ s) ++ ⟨#[98, 32]⟩) ++ s) ++ ⟨#[10]⟩) ++ s : ByteArray) = T at *
      have F1 := Lib.hid (find_any T s w1 tz HS.out.ne (by omega) HS.out.part)
      refine F1.out.mono ?_
      rintro e w2 ⟨u1, rfl, r1, hb2⟩
      unfold wordsOf at r1
      rw [tx, edge_places _ HS.out.part HS.out.ne (by omega), hsl] at r1
      have R1 := Lib.hid r1
      have HB2 := Lib.hid (bstep HB1.out hb2)
      have px : ∀ c ∈ (⟨#[98]⟩ ++ s : ByteArray).data.toList, partB c = true := part_app (by decide) HS.out.part
      have pz : (⟨#[98]⟩ ++ s : ByteArray).size = 1 + s.size := by rw [ByteArray.size_append, one_size]
      clear r1 hb2 F1 tx tz hsl HB1 hS
      go_wp2_with fail
      generalize (⟨#[98]⟩ ++ s : ByteArray) = T2 at *
      have hT2 : T2.data.toList ≠ [] := fun e => by
        have h9 : T2.data.toList.length = T2.size := by simp
        rw [e, pz] at h9
        simp at h9
        omega
      have F2 := Lib.hid (find_any T2 T2 w2 (by omega) hT2 (by omega) px)
      refine F2.out.mono ?_
      rintro e w3 ⟨u2, rfl, r2, hb3⟩
      unfold wordsOf at r2
      rw [edge_one _ px hT2 (by have h9 : T2.data.toList.length = T2.size := by simp
                                omega)] at r2
      have R2 := Lib.hid r2
      have R13 := Lib.hid (R1.out.later hb3)
      have HB3 := Lib.hid (bstep HB2.out hb3)
      clear r2 hb3 F2 R1 HB2 pz px hT2
      go_wp2_with fail
      have hr2 := R2.out.later ((Below.refl w3.heap.size w3).alloc (Nat.le_refl _) (.cells #[.int .i64 0] 3))
      have hr1 := R13.out.later ((Below.refl w3.heap.size w3).alloc (Nat.le_refl _) (.cells #[.int .i64 0] 3))
      have hl := Row.lit w3 3 .i64 [0] (by decide) (by intro x hx; rw [List.mem_singleton.1 hx]; rfl)
      have S := Lib.hid (sameInts_any _ _ [0] [0] _ hr2 hl)
      rw [decide_eq_true (rfl : ([0] : List Int) = [0])] at S
      have R14 := Lib.hid hr1
      clear hr2 hr1 hl R2 R13
      refine S.out.mono ?_
      rintro e w4 ⟨rfl, hb4⟩
      have R15 := Lib.hid (R14.out.later hb4)
      have HB4 := Lib.hid (bstep HB3.out (bstep_alloc hb4))
      clear S R14 HB3 hb4
      go_wp2_with fail
      have hr1 := R15.out.later ((Below.refl w4.heap.size w4).alloc (Nat.le_refl _) (.cells #[.int .i64 (2 * (s.size : Int) + 4), .int .i64 (2 * (s.size : Int) + 4 + (s.size : Int) + 1)] 3))
      have hl := Row.lit w4 3 .i64 [2 * (s.size : Int) + 4, 2 * (s.size : Int) + 4 + (s.size : Int) + 1] (by simp only [List.length_cons, List.length_nil]; decide) (by
        intro x hx
        simp only [List.mem_cons, List.not_mem_nil, or_false] at hx
        rcases hx with rfl | rfl
        · exact WalkArith.wf_i64 (by omega)
        · exact WalkArith.wf_i64 (by omega))
      have S := Lib.hid (sameInts_any _ _ _ [2 * (s.size : Int) + 4, 2 * (s.size : Int) + 4 + (s.size : Int) + 1] _ hr1 hl)
      rw [decide_eq_true (show [((2 * s.size + 4 : Nat) : Int), ((3 * s.size + 5 : Nat) : Int)] = [2 * (s.size : Int) + 4, 2 * (s.size : Int) + 4 + (s.size : Int) + 1] by
        rw [show ((2 * s.size + 4 : Nat) : Int) = 2 * (s.size : Int) + 4 by omega, show ((3 * s.size + 5 : Nat) : Int) = 2 * (s.size : Int) + 4 + (s.size : Int) + 1 by omega])] at S
      clear hr1 hl R15
      refine S.out.mono ?_
      rintro e w5 ⟨rfl, hb5⟩
      have HB5 := bstep HB4.out (bstep_alloc hb5)
      clear S HB4 hb5
      go_wp2_with fail
      go_ret
      exact ⟨rfl, HB5⟩
    · have hS : EdgeS ((⟨#[97]⟩ ++ (x ++ ⟨#[97]⟩) : ByteArray).extract 0 11) := ⟨by rw [ByteArray.size_extract]; omega, by rw [ByteArray.size_extract]; omega, part_ext _ _ (part_app a_part PX.out)⟩
      have q1 : (12 : Int) ≤ ((⟨#[97]⟩ ++ (x ++ ⟨#[97]⟩) : ByteArray).size : Int) := by omega
      go_wp2_with fail
      generalize ((⟨#[97]⟩ ++ (x ++ ⟨#[97]⟩) : ByteArray).extract 0 11) = s at *
      clear zy q1 zx PX
      have HS : Hid (EdgeS s) := Lib.hid hS
      have hs1 := HS.out.pos
      have hs2 := HS.out.le
      have hsl : s.data.toList.length = s.size := by simp
      have tx := edge_text s
      have tz : (((((((⟨#[98]⟩ ++ s) ++ ⟨#[32]⟩) ++ s) ++ ⟨#[98, 32]⟩) ++ s) ++ ⟨#[10]⟩) ++ s : ByteArray).size ≤ 600 := by
        rw [ByteArray.size_append, ByteArray.size_append, ByteArray.size_append, ByteArray.size_append, ByteArray.size_append, ByteArray.size_append, ByteArray.size_append, one_size, one_size, one_size, show (⟨#[98, 32]⟩ : ByteArray).size = 2 from rfl]
        omega
      generalize (((((((⟨#[98]⟩ ++ s) ++ ⟨#[32]⟩) ++ s) ++ ⟨#[98, 32]⟩) ++ s) ++ ⟨#[10]⟩) ++ s : ByteArray) = T at *
      have F1 := Lib.hid (find_any T s w1 tz HS.out.ne (by omega) HS.out.part)
      refine F1.out.mono ?_
      rintro e w2 ⟨u1, rfl, r1, hb2⟩
      unfold wordsOf at r1
      rw [tx, edge_places _ HS.out.part HS.out.ne (by omega), hsl] at r1
      have R1 := Lib.hid r1
      have HB2 := Lib.hid (bstep HB1.out hb2)
      have px : ∀ c ∈ (⟨#[98]⟩ ++ s : ByteArray).data.toList, partB c = true := part_app (by decide) HS.out.part
      have pz : (⟨#[98]⟩ ++ s : ByteArray).size = 1 + s.size := by rw [ByteArray.size_append, one_size]
      clear r1 hb2 F1 tx tz hsl HB1 hS
      go_wp2_with fail
      generalize (⟨#[98]⟩ ++ s : ByteArray) = T2 at *
      have hT2 : T2.data.toList ≠ [] := fun e => by
        have h9 : T2.data.toList.length = T2.size := by simp
        rw [e, pz] at h9
        simp at h9
        omega
      have F2 := Lib.hid (find_any T2 T2 w2 (by omega) hT2 (by omega) px)
      refine F2.out.mono ?_
      rintro e w3 ⟨u2, rfl, r2, hb3⟩
      unfold wordsOf at r2
      rw [edge_one _ px hT2 (by have h9 : T2.data.toList.length = T2.size := by simp
                                omega)] at r2
      have R2 := Lib.hid r2
      have R13 := Lib.hid (R1.out.later hb3)
      have HB3 := Lib.hid (bstep HB2.out hb3)
      clear r2 hb3 F2 R1 HB2 pz px hT2
      go_wp2_with fail
      have hr2 := R2.out.later ((Below.refl w3.heap.size w3).alloc (Nat.le_refl _) (.cells #[.int .i64 0] 3))
      have hr1 := R13.out.later ((Below.refl w3.heap.size w3).alloc (Nat.le_refl _) (.cells #[.int .i64 0] 3))
      have hl := Row.lit w3 3 .i64 [0] (by decide) (by intro x hx; rw [List.mem_singleton.1 hx]; rfl)
      have S := Lib.hid (sameInts_any _ _ [0] [0] _ hr2 hl)
      rw [decide_eq_true (rfl : ([0] : List Int) = [0])] at S
      have R14 := Lib.hid hr1
      clear hr2 hr1 hl R2 R13
      refine S.out.mono ?_
      rintro e w4 ⟨rfl, hb4⟩
      have R15 := Lib.hid (R14.out.later hb4)
      have HB4 := Lib.hid (bstep HB3.out (bstep_alloc hb4))
      clear S R14 HB3 hb4
      go_wp2_with fail
      have hr1 := R15.out.later ((Below.refl w4.heap.size w4).alloc (Nat.le_refl _) (.cells #[.int .i64 (2 * (s.size : Int) + 4), .int .i64 (2 * (s.size : Int) + 4 + (s.size : Int) + 1)] 3))
      have hl := Row.lit w4 3 .i64 [2 * (s.size : Int) + 4, 2 * (s.size : Int) + 4 + (s.size : Int) + 1] (by simp only [List.length_cons, List.length_nil]; decide) (by
        intro x hx
        simp only [List.mem_cons, List.not_mem_nil, or_false] at hx
        rcases hx with rfl | rfl
        · exact WalkArith.wf_i64 (by omega)
        · exact WalkArith.wf_i64 (by omega))
      have S := Lib.hid (sameInts_any _ _ _ [2 * (s.size : Int) + 4, 2 * (s.size : Int) + 4 + (s.size : Int) + 1] _ hr1 hl)
      rw [decide_eq_true (show [((2 * s.size + 4 : Nat) : Int), ((3 * s.size + 5 : Nat) : Int)] = [2 * (s.size : Int) + 4, 2 * (s.size : Int) + 4 + (s.size : Int) + 1] by
        rw [show ((2 * s.size + 4 : Nat) : Int) = 2 * (s.size : Int) + 4 by omega, show ((3 * s.size + 5 : Nat) : Int) = 2 * (s.size : Int) + 4 + (s.size : Int) + 1 by omega])] at S
      clear hr1 hl R15
      refine S.out.mono ?_
      rintro e w5 ⟨rfl, hb5⟩
      have HB5 := bstep HB4.out (bstep_alloc hb5)
      clear S HB4 hb5
      go_wp2_with fail
      go_ret
      exact ⟨rfl, HB5⟩
  · have hS : EdgeS (x ++ ⟨#[97]⟩) := ⟨by omega, by omega, PX.out⟩
    have q1 : decide (12 ≤ ((x ++ ⟨#[97]⟩ : ByteArray).size : Int)) = false := decide_eq_false (by omega)
    go_wp2_with fail
    generalize (x ++ ⟨#[97]⟩ : ByteArray) = s at *
    clear q1 zx PX
    have HS : Hid (EdgeS s) := Lib.hid hS
    have hs1 := HS.out.pos
    have hs2 := HS.out.le
    have hsl : s.data.toList.length = s.size := by simp
    have tx := edge_text s
    have tz : (((((((⟨#[98]⟩ ++ s) ++ ⟨#[32]⟩) ++ s) ++ ⟨#[98, 32]⟩) ++ s) ++ ⟨#[10]⟩) ++ s : ByteArray).size ≤ 600 := by
      rw [ByteArray.size_append, ByteArray.size_append, ByteArray.size_append, ByteArray.size_append, ByteArray.size_append, ByteArray.size_append, ByteArray.size_append, one_size, one_size, one_size, show (⟨#[98, 32]⟩ : ByteArray).size = 2 from rfl]
      omega
    generalize (((((((⟨#[98]⟩ ++ s) ++ ⟨#[32]⟩) ++ s) ++ ⟨#[98, 32]⟩) ++ s) ++ ⟨#[10]⟩) ++ s : ByteArray) = T at *
    have F1 := Lib.hid (find_any T s w1 tz HS.out.ne (by omega) HS.out.part)
    refine F1.out.mono ?_
    rintro e w2 ⟨u1, rfl, r1, hb2⟩
    unfold wordsOf at r1
    rw [tx, edge_places _ HS.out.part HS.out.ne (by omega), hsl] at r1
    have R1 := Lib.hid r1
    have HB2 := Lib.hid (bstep HB1.out hb2)
    have px : ∀ c ∈ (⟨#[98]⟩ ++ s : ByteArray).data.toList, partB c = true := part_app (by decide) HS.out.part
    have pz : (⟨#[98]⟩ ++ s : ByteArray).size = 1 + s.size := by rw [ByteArray.size_append, one_size]
    clear r1 hb2 F1 tx tz hsl HB1 hS
    go_wp2_with fail
    generalize (⟨#[98]⟩ ++ s : ByteArray) = T2 at *
    have hT2 : T2.data.toList ≠ [] := fun e => by
      have h9 : T2.data.toList.length = T2.size := by simp
      rw [e, pz] at h9
      simp at h9
      omega
    have F2 := Lib.hid (find_any T2 T2 w2 (by omega) hT2 (by omega) px)
    refine F2.out.mono ?_
    rintro e w3 ⟨u2, rfl, r2, hb3⟩
    unfold wordsOf at r2
    rw [edge_one _ px hT2 (by have h9 : T2.data.toList.length = T2.size := by simp
                              omega)] at r2
    have R2 := Lib.hid r2
    have R13 := Lib.hid (R1.out.later hb3)
    have HB3 := Lib.hid (bstep HB2.out hb3)
    clear r2 hb3 F2 R1 HB2 pz px hT2
    go_wp2_with fail
    have hr2 := R2.out.later ((Below.refl w3.heap.size w3).alloc (Nat.le_refl _) (.cells #[.int .i64 0] 3))
    have hr1 := R13.out.later ((Below.refl w3.heap.size w3).alloc (Nat.le_refl _) (.cells #[.int .i64 0] 3))
    have hl := Row.lit w3 3 .i64 [0] (by decide) (by intro x hx; rw [List.mem_singleton.1 hx]; rfl)
    have S := Lib.hid (sameInts_any _ _ [0] [0] _ hr2 hl)
    rw [decide_eq_true (rfl : ([0] : List Int) = [0])] at S
    have R14 := Lib.hid hr1
    clear hr2 hr1 hl R2 R13
    refine S.out.mono ?_
    rintro e w4 ⟨rfl, hb4⟩
    have R15 := Lib.hid (R14.out.later hb4)
    have HB4 := Lib.hid (bstep HB3.out (bstep_alloc hb4))
    clear S R14 HB3 hb4
    go_wp2_with fail
    have hr1 := R15.out.later ((Below.refl w4.heap.size w4).alloc (Nat.le_refl _) (.cells #[.int .i64 (2 * (s.size : Int) + 4), .int .i64 (2 * (s.size : Int) + 4 + (s.size : Int) + 1)] 3))
    have hl := Row.lit w4 3 .i64 [2 * (s.size : Int) + 4, 2 * (s.size : Int) + 4 + (s.size : Int) + 1] (by simp only [List.length_cons, List.length_nil]; decide) (by
      intro x hx
      simp only [List.mem_cons, List.not_mem_nil, or_false] at hx
      rcases hx with rfl | rfl
      · exact WalkArith.wf_i64 (by omega)
      · exact WalkArith.wf_i64 (by omega))
    have S := Lib.hid (sameInts_any _ _ _ [2 * (s.size : Int) + 4, 2 * (s.size : Int) + 4 + (s.size : Int) + 1] _ hr1 hl)
    rw [decide_eq_true (show [((2 * s.size + 4 : Nat) : Int), ((3 * s.size + 5 : Nat) : Int)] = [2 * (s.size : Int) + 4, 2 * (s.size : Int) + 4 + (s.size : Int) + 1] by
      rw [show ((2 * s.size + 4 : Nat) : Int) = 2 * (s.size : Int) + 4 by omega, show ((3 * s.size + 5 : Nat) : Int) = 2 * (s.size : Int) + 4 + (s.size : Int) + 1 by omega])] at S
    clear hr1 hl R15
    refine S.out.mono ?_
    rintro e w5 ⟨rfl, hb5⟩
    have HB5 := bstep HB4.out (bstep_alloc hb5)
    clear S HB4 hb5
    go_wp2_with fail
    go_ret
    exact ⟨rfl, HB5⟩
end Go.Proofs.Ytpgjjnbepkofdaa
