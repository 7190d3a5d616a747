/-
  The walk of the law FuzzyEdits: whatever its input, it returns true and changes nothing that was there.
-/
import Derived.Test.YtegobmlbldabbaaBand
import Derived.Test.YtegobmlbldabbaaFarFrom
import Derived.Test.YtegobmlbldabbaaEdits
namespace Go.Proofs.Ytegobmlbldabbaa
open Go.RowKit
set_option linter.unusedVariables false

set_option maxRecDepth 100000 in
set_option maxHeartbeats 1000000 in
theorem near_yes (a b : ByteArray) (m : Nat) (w : World) (ha : a.size ≤ 20) (hb : b.size ≤ 20) (hm : m ≤ 20) (hn : Lv.lev a.data.toList b.data.toList ≤ m) :
    Calls Try.prog 23 #[.string a, .string b, .int .i64 (m : Int)] w fun e w' => e = .returned (.tuple #[.bool true, .int .i64 0]) ∧ Below w.heap.size w w' := by
  have hl := SRow.lit w 9 [a, b] (show 2 ≤ maxLen by decide)
  have HN := Lib.hid hn
  clear hn
  go_enter Try.func23, Try.ntmps23
  go_wp2_with fail
  refine (long_any _ [a, b] _ hl (by simp; omega)).mono ?_
  rintro e w' ⟨rfl, rfl⟩
  go_wp2_with fail
  refine (band_near a b m _ ha hb hm HN.out).mono ?_
  rintro e w1 ⟨rfl, hb1⟩
  go_wp2_with fail
  go_ret2
  exact ⟨rfl, bstep ((Below.refl _ _).alloc (Nat.le_refl _) _) hb1⟩
theorem lev_mk (s : ByteArray) (e : Ed) (h : e.p + e.c ≤ s.size) : Lv.lev s.data.toList (mk s e).data.toList ≤ max e.c e.put.size := by
  rw [mk_list s e h]
  have hl : s.data.toList.length = s.size := by simp
  have e1 : s.data.toList = s.data.toList.take e.p ++ (s.data.toList.drop e.p).take e.c ++ s.data.toList.drop (e.p + e.c) := by
    rw [List.append_assoc, ← List.drop_drop, List.take_append_drop, List.take_append_drop]
  conv => lhs; arg 1; rw [e1]
  rw [Lv.lev_tail, Lv.lev_head]
  have := Lv.lev_le ((s.data.toList.drop e.p).take e.c) e.put.data.toList
  have h2 : e.put.data.toList.length = e.put.size := by simp
  rw [List.length_take, List.length_drop, h2] at this
  omega
set_option maxRecDepth 100000 in
set_option maxHeartbeats 8000000 in
theorem fuzzyEdits_walk (w : World) (v0 : Value) (xs : List Int) (h0 : Row .i64 w v0 xs) (v1 : Value) (cs : List Chg) (h1 : Chgs w v1 cs) :
    Calls Try.prog 5 #[v0, v1] w fun e w' => e = .returned (.bool true) ∧ Below w.heap.size w w' := by
  have HT := Lib.hid (few_any v0 xs 10 w h0 (by omega) (by omega))
  obtain ⟨A, c, rfl, hl, hc, hr⟩ := h1.plain
  unfold maxLen at hc
  have HR := Lib.hid hr
  clear h0 h1 hr
  go_enter Try.func5, Try.ntmps5
  go_wp2_with fail
  refine HT.out.mono ?_
  rintro e w1 ⟨s, rfl, hs, hb1⟩
  have hs10 : s.size ≤ 10 := few_len _ _ _ hs
  have HB1 := Lib.hid hb1
  clear hs HT hb1
  go_wp2_with fail
  go_loopw [6, 7, 8] (fun t q i wr => ∃ (k z : Nat) (u : ByteArray), k ≤ cs.length ∧ k ≤ 3 ∧ i = .int .i64 k ∧ t = .string u ∧ q = .int .i64 z ∧ u.size ≤ 20 ∧ z ≤ 12 * k ∧ Lv.lev s.data.toList u.data.toList ≤ z ∧ Below w.heap.size w wr) (fun _ _ i _ => cs.length - (intOf i).toNat)
  case atStart => exact ⟨0, 0, s, Nat.zero_le _, Nat.zero_le _, rfl, rfl, rfl, by omega, Nat.zero_le _, by rw [Lv.lev_self]; exact Nat.zero_le _, HB1.out⟩
  case round =>
    obtain ⟨k, z, t, hk, hk3, rfl, rfl, rfl, ht, hz, hlev, hbel⟩ := hrel
    by_cases hgo : k < cs.length ∧ k < 3
    · obtain ⟨hlt, hlt3⟩ := hgo
      have hlt3i : (k : Int) < 3 := by omega
      obtain ⟨b0, o0, rfl, hab, hcell⟩ := HR.out (by omega)
      obtain ⟨u0, u1, u2, c0, c1, c2, hx⟩ := hcell k cs[k] (List.getElem?_eq_getElem hlt)
      clear hcell
      have hab' := Nat.lt_of_lt_of_le hab hbel.size
      replace hx := hx.later hbel
      rw [← hbel.cell (p := ⟨b0, _, none⟩) hab] at c0 c1 c2
      have HX := Lib.hid (fun W (hx : Chg1 W u0 u1 u2 cs[k]) => editOf_any cs[k] u0 u1 u2 t.size W hx (by omega))
      generalize cs[k] = x at *
      have HL := Lib.hid hlev
      have HB := Lib.hid hbel
      have HXX := Lib.hid hx
      clear hlev hbel hx
      go_wp2_with fail
      refine (HX.out _ HXX.out).mono ?_
      rintro e w2 ⟨d, rfl, hd1, hd2, hd3, hb2⟩
      have HB2 := Lib.hid (bstep HB.out hb2)
      clear hb2 HX HXX c0 c1 c2
      by_cases hbig : t.size + d.put.size - d.c ≤ 20
      · have hbi : (t.size : Int) + (d.put.size : Int) - (d.c : Int) ≤ 20 := by omega
        have HLM := Lib.hid (lev_mk t d hd1)
        have HTRI := Lib.hid (Lv.lev_tri _ s.data.toList t.data.toList (mk t d).data.toList (Nat.le_refl _))
        have HSZ := Lib.hid (mk_size t d hd1)
        have hlit := EdRow.lit ((w2.alloc (.cells #[.int .i64 (d.p : Int), .int .i64 (d.c : Int), .string d.put] 34))) 34 [d] (show 1 ≤ maxLen by decide)
        have HA := Lib.hid (apply_any t _ [d] _ hlit (by omega) (show 1 ≤ 60 by decide) (by simp; omega) ⟨hd1, by omega, trivial⟩)
        have HBA := Lib.hid ((HB2.out.alloc HB2.out.size (.cells #[.int .i64 (d.p : Int), .int .i64 (d.c : Int), .string d.put] 34)).alloc (by simp; have := HB2.out.size; omega) (.cells (edCells [d]).toArray 34))
        have hsz1 : (w2.alloc (.cells #[.int .i64 (d.p : Int), .int .i64 (d.c : Int), .string d.put] 34)).heap.size = w2.heap.size + 1 := by simp
        rw [hsz1] at HA
        have hE := ((Blk.new w2 34 #[.int .i64 (d.p : Int), .int .i64 (d.c : Int), .string d.put]).alloc (.cells (edCells [d]).toArray 34))
        clear hlit hsz1
        go_wp2_with fail
        refine HA.out.mono ?_
        rintro e w4 ⟨rfl, hb4⟩
        have hE4 := hE.below hb4 hE.lt
        have x1 : w4.cell? ⟨w2.heap.size, 1, none⟩ = some (.int .i64 (d.c : Int)) := by rw [hE4.cell]; rfl
        have x2 : w4.cell? ⟨w2.heap.size, 2, none⟩ = some (.string d.put) := by rw [hE4.cell]; rfl
        have HB4 := Lib.hid (HBA.out.trans (hb4.mono (HBA.out.size)))
        have hrn : rn t [d] = mk t d := rfl
        rw [hrn]
        clear hE hE4 hb4 HA HBA hrn
        generalize mk t d = t' at *
        obtain ⟨mx, hmx, hmx2⟩ : ∃ q : Nat, (if (d.c : Int) < (d.put.size : Int) then (d.put.size : Int) else (d.c : Int)) = (q : Int) ∧ q = max d.c d.put.size := ⟨max d.c d.put.size, by split <;> omega, rfl⟩
        have HMX := Lib.hid hmx2
        clear hmx2
        have hm12 : mx ≤ 12 := by have := HMX.out; omega
        go_wp2_with fail
        go_roundw
        case rel => exact ⟨k + 1, z + mx, t', by omega, by omega, by go_num, rfl, by go_num, by have := HSZ.out; omega, by omega, by have h1 := HL.out; have h2 := HLM.out; have h3 := HTRI.out; have h4 := HMX.out; omega, HB4.out⟩
        case measure => simp [intOf]; omega
      · have hbi : ¬ (t.size : Int) + (d.put.size : Int) - (d.c : Int) ≤ 20 := by omega
        have HB3 := Lib.hid (HB2.out.alloc HB2.out.size (.cells #[.int .i64 (d.p : Int), .int .i64 (d.c : Int), .string d.put] 34))
        go_wp2_with fail
        go_roundw
        case rel => exact ⟨k + 1, z, t, by omega, by omega, by go_num, rfl, rfl, ht, by omega, HL.out, HB3.out⟩
        case measure => simp [intOf]; omega
    · have HL := Lib.hid hlev
      have HB := Lib.hid hbel
      have HF := Lib.hid (farFrom_any s t wr (by omega) ht)
      have h20 : Lv.lev s.data.toList t.data.toList ≤ 20 := by
        have h9 := Lv.lev_le s.data.toList t.data.toList
        have e1 : s.data.toList.length = s.size := by simp
        have e2 : t.data.toList.length = t.size := by simp
        rw [e1, e2] at h9; omega
      obtain ⟨mn, hmn, hmn2⟩ : ∃ q : Nat, (if (20 : Int) < (z : Int) then (20 : Int) else (z : Int)) = (q : Int) ∧ q = min z 20 := ⟨min z 20, by split <;> omega, rfl⟩
      have hm20 : mn ≤ 20 := by omega
      have HN := Lib.hid (fun W => near_yes s t mn W (by omega) ht hm20 (by omega))
      have hlz : (Lv.lev s.data.toList t.data.toList : Int) ≤ (z : Int) := by omega
      clear hlev hbel hmn2 h20
      have HG : Hid (¬ (k < cs.length ∧ k < 3)) := Lib.hid hgo
      by_cases hlt : k < cs.length
      · have hk3' : k = 3 := by omega
        subst hk3'
        clear hgo
        go_wp2_with fail
        refine HF.out.mono ?_
        rintro e w2 ⟨rfl, hb2⟩
        have HB2 := Lib.hid (bstep HB.out hb2)
        clear hb2 HF
        generalize Lv.lev s.data.toList t.data.toList = L at *
        go_wp2_with fail
        refine (HN.out _).mono ?_
        rintro e w3 ⟨rfl, hb3⟩
        have HB3 := Lib.hid (bstep HB2.out hb3)
        clear hb3
        go_wp2_with fail
        go_ret
        exact ⟨rfl, HB3.out⟩
      · clear hgo
        go_wp2_with fail
        refine HF.out.mono ?_
        rintro e w2 ⟨rfl, hb2⟩
        have HB2 := Lib.hid (bstep HB.out hb2)
        clear hb2 HF
        generalize Lv.lev s.data.toList t.data.toList = L at *
        go_wp2_with fail
        refine (HN.out _).mono ?_
        rintro e w3 ⟨rfl, hb3⟩
        have HB3 := Lib.hid (bstep HB2.out hb3)
        clear hb3
        go_wp2_with fail
        go_ret
        exact ⟨rfl, HB3.out⟩
end Go.Proofs.Ytegobmlbldabbaa
