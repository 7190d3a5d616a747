/-
  The walk of words.Update: the words of a text behind an edit.
-/
import Derived.Test.YtpgjjnbepkofdaaWrdA
import Derived.Test.YtpgjjnbepkofdaaWrdB
import Derived.Test.YtpgjjnbepkofdaaWrdD
import Derived.Test.YtpgjjnbepkofdaaWrdR
import Derived.Test.YtpgjjnbepkofdaaEd
namespace Go.Proofs.Ytpgjjnbepkofdaa
open Go.RowKit Go.WideMaps Go.Maps Go.ChangeShapes Go.ChangeMaps
set_option linter.unusedVariables false
set_option linter.unusedSimpArgs false

/-- The words of a text, as All tells them. -/
structure WordsAre (text : ByteArray) (l : List WV) : Prop where
  ok : WdsOk (fun s => placesOf (wordsOf text) s.data.toList) (l.map WV.k)
  at_ : ∀ x ∈ l, x.at_ = placesOf (wordsOf text) x.k
  len : l.length ≤ 1000
theorem WordsAre.same {text : ByteArray} {l l' : List WV} (h : WordsAre text l) (h' : WordsAre text l') : l.map (fun x => (x.k, x.at_)) = l'.map (fun x => (x.k, x.at_)) := by
  have e := h.ok.unique h'.ok
  have f : ∀ m : List WV, (∀ x ∈ m, x.at_ = placesOf (wordsOf text) x.k) → m.map (fun x => (x.k, x.at_)) = (m.map WV.k).map (fun k => (k, placesOf (wordsOf text) k)) := fun m hm => by
    rw [List.map_map]
    exact List.map_congr_left fun x hx => by simp only [Function.comp, hm x hx]
  rw [f l h.at_, f l' h'.at_, e]
theorem sub_sum {l m : List Nat} (h : l.Sublist m) : l.sum ≤ m.sum := by
  induction h with
  | slnil => exact Nat.le_refl _
  | cons a _ ih => rw [List.sum_cons]; omega
  | cons_cons a _ ih => rw [List.sum_cons, List.sum_cons]; omega
theorem TabSt.below {W W' : World} {bv b base n : Nat} {g : ByteArray → List Int} (h : TabSt W bv b base n g) (hb : Below W.heap.size W W') : TabSt W' bv b base n g := ⟨h.blk.below hb h.blk.lt, h.tbl.below hb, Nat.le_trans h.low hb.size⟩
theorem nums_le (lo hi : Nat) (d : Int) (zs : List Int) : (noteZ lo hi d zs).length ≤ zs.length := List.length_filterMap_le _ _
theorem asc_perm {a b : List Int} (h : a.Perm b) (hb : b.Pairwise (fun x y => x < y)) : ascI a = b := by
  unfold ascI
  have tr : ∀ x y z : Int, decide (x ≤ y) = true → decide (y ≤ z) = true → decide (x ≤ z) = true := fun x y z h1 h2 => by simp only [decide_eq_true_eq] at *; omega
  have to : ∀ x y : Int, (decide (x ≤ y) || decide (y ≤ x)) = true := fun x y => by simp only [Bool.or_eq_true, decide_eq_true_eq]; omega
  refine List.Perm.eq_of_pairwise (le := fun x y => x ≤ y) (fun x y _ _ h1 h2 => Int.le_antisymm h1 h2) ((List.pairwise_mergeSort tr to a).imp fun h => by simpa using h) (hb.imp fun h => Int.le_of_lt h) ((List.mergeSort_perm a _).trans h)
theorem made_parts (L M put : List UInt8) (p c lo hi hj : Nat) (hM : M = L.take p ++ put ++ L.drop (p + c)) (h1 : lo ≤ p) (h2 : p + c ≤ hi) (h3 : hi ≤ L.length) (h4 : hj + c = hi + put.length) : M = L.take lo ++ ((M.take hj).drop lo ++ L.drop hi) := by
  have e1 : M.take lo = L.take lo := by
    rw [hM, List.append_assoc, List.take_append_of_le_length (by rw [List.length_take]; omega), List.take_take]
    congr 1
    omega
  have e2 : M.drop hj = L.drop hi := by
    have l1 : (L.take p ++ put).length = p + put.length := by rw [List.length_append, List.length_take]; omega
    rw [hM, List.drop_append, List.drop_eq_nil_of_le (by rw [l1]; omega), List.nil_append, List.drop_drop, l1]
    congr 1
    omega
  have e3 := List.take_append_drop lo (M.take hj)
  have e4 := List.take_append_drop hj M
  rw [List.take_take, show min lo hj = lo by omega, e1] at e3
  rw [← List.append_assoc, e3, ← e2, e4]
/-- WHAT THE TABLE HOLDS AT THE END ARE THE WORDS OF THE NEW TEXT. -/
theorem update_table (text : ByteArray) (ed : Ed) (l : List WV) (lo hi hj : Nat) (dd : Int) (hw : WordsAre text l) (he : ed.p + ed.c ≤ text.size) (hao : AroundOk text.data.toList ed.p (ed.p + ed.c) lo hi) (hdd : (ed.put.size : Int) - (ed.c : Int) = dd) (hhj : (hj : Int) = (hi : Int) + dd) (hj1 : lo ≤ hj) (hj2 : hj ≤ (mk text ed).size) (s : ByteArray) :
    ascI (noteAll (noteP (noteL lo hi dd (l.map (fun x => (x.k, x.at_))))) (wordsIn (mk text ed).data.toList lo hj) s) = placesOf (wordsOf (mk text ed)) s.data.toList := by
  rw [noteAll_places, noteL_table lo hi dd _ (wordsOf text) (by rw [List.map_map]; exact hw.ok.up.imp fun h => h.2) (fun x hx => by
    obtain ⟨y, hy, rfl⟩ := List.mem_map.1 hx
    exact hw.at_ y hy) s (fun hno => by
    rw [List.map_map] at hno
    refine Classical.byContradiction fun hne => hno ?_
    obtain ⟨z, hz⟩ := List.exists_mem_of_ne_nil _ hne
    obtain ⟨_, _, _, _, _, h5, _⟩ := place_ok text.data.toList s.data.toList z hz
    exact (hw.ok.mem s.data.toList).2 ⟨Nat.le_trans h5 (by decide), hne⟩)]
  have hsz : (mk text ed).data.toList.length = (mk text ed).size := by simp
  have hpl : ed.put.data.toList.length = ed.put.size := by simp
  have hM := made_parts text.data.toList (mk text ed).data.toList ed.put.data.toList ed.p ed.c lo hi hj (mk_list text ed he) hao.l1 hao.h1 hao.h2 (by omega)
  have hp := update_perm text.data.toList (mk text ed).data.toList ed.p (ed.p + ed.c) lo hi hj hao hM hj1 (by rw [hsz]; exact hj2) s.data.toList
  rw [show (hj : Int) - (hi : Int) = dd by omega] at hp
  exact asc_perm hp (places_up _ _)
/-- The variable, the map and the word's block are as they were. -/
def Still3 (W : World) (bv b t : Nat) (W' : World) : Prop := Still W bv b W' ∧ W'.heap[t]? = W.heap[t]?
theorem noteP_snoc (D : List (List UInt8 × Int)) (k : List UInt8) (z : Int) : noted (noteP D) ⟨k.toArray⟩ z = noteP (D ++ [(k, z)]) := by
  funext s
  unfold noted
  rw [noteP_append]
  by_cases h : s = ⟨k.toArray⟩
  · subst h
    rw [if_pos rfl]
    congr 1
    simp [noteP]
  · rw [if_neg h]
    have : ¬ k = s.data.toList := fun e => h (by rw [e])
    simp [noteP, this]
set_option maxRecDepth 100000 in
set_option maxHeartbeats 8000000 in
theorem update_any (text : ByteArray) (ed : Ed) (v : Value) (l : List WV) (w : World) (hl : WRd w v l) (hw : WordsAre text l) (htx : text.size ≤ 300) (he : ed.p + ed.c ≤ text.size) (hput : ed.put.size ≤ 100) :
    Calls Try.prog 22 #[.string text, v, .agg #[.int .i64 (ed.p : Int), .int .i64 (ed.c : Int), .string ed.put]] w (WordsPost (mk text ed) w) := by
  have hmm := @run_makeMap Try.prog
  have BX := Blk.new w 49 #[.int .i64 (ed.p : Int), .int .i64 (ed.c : Int), .string ed.put]
  have BE0 : Below w.heap.size w (w.alloc (.cells #[.int .i64 (ed.p : Int), .int .i64 (ed.c : Int), .string ed.put] 49)) := (Below.refl _ _).alloc (Nat.le_refl _) _
  have O1 := Lib.hid (of_any text (w.alloc (.cells #[.int .i64 (ed.p : Int), .int .i64 (ed.c : Int), .string ed.put] 49)) (by omega))
  have htx2 : decide ((600 : Int) < (text.size : Int)) = false := decide_eq_false (by omega)
  obtain ⟨A, c, rfl, hc1, hc2, _⟩ := id hl.row
  have HL := Lib.hid hl
  have HW := Lib.hid hw
  have hwl := BX.lt
  clear hl hw
  go_enter Try.func22, Try.ntmps22
  go_wp2_with fail
  refine O1.out.mono ?_
  rintro e w1 ⟨b0, base0, n0, rfl, hn0, hb0, hlow0, ht0, hbe1⟩
  have L1 := Lib.hid (list_any b0 base0 n0 _ w1 ht0 (by omega))
  have BX1 := BX.below hbe1 hwl
  have BE1 := BE0.trans (hbe1.mono BE0.size)
  have hw1 := BX1.lt
  clear BX BE0 O1 hbe1 ht0 hwl
  go_wp2_with fail
  refine L1.out.mono ?_
  rintro e w2 ⟨v2, l2, rfl, ho2, hr2, hok2, hat2, hll2, hb2⟩
  have BX2 := BX1.below hb2 hw1
  have BE2 := BE1.trans (hb2.mono BE1.size)
  have W2 : WordsAre text l2 := ⟨hok2, hat2, hll2⟩
  have RD2 : WRd w2 v2 l2 := ⟨CRow.of_own wvc_len ho2, fun x hx => row_of_own (hr2 x hx).1 (hr2 x hx).2⟩
  have EQ := Lib.hid (equalW_any _ v2 l l2 w2 (HL.out.later BE2) RD2 HW.out.len (HW.out.same W2))
  have hw2 := BX2.lt
  clear BX1 BE1 hw1 hb2 ho2 hr2 hok2 hat2 hll2 L1 W2 RD2
  go_wp2_with fail
  refine EQ.out.mono ?_
  rintro e w3 ⟨rfl, hb3⟩
  have BX3 := BX2.below hb3 hw2
  have BE3 := BE2.trans (hb3.mono BE2.size)
  have d0 := BX3.cell 0
  have d1 := BX3.cell 1
  have d2 := BX3.cell 2
  have CK := Lib.hid (check_any text.size ed.p ed.c ed.put w3 he (by omega) (by omega))
  have hw3 := BX3.lt
  have HBX3 := Lib.hid BX3
  have HBE3 := Lib.hid BE3
  clear BX2 BE2 hw2 hb3 EQ BX3 BE3
  go_wp2_with fail
  refine CK.out.mono ?_
  rintro e w4 ⟨rfl, hb4⟩
  have BX4 := HBX3.out.below hb4 hw3
  have BE4 := Lib.hid (HBE3.out.trans (hb4.mono HBE3.out.size))
  have e0 := BX4.cell 0
  have e1 := BX4.cell 1
  have e2 := BX4.cell 2
  have HBX4 := Lib.hid BX4
  have ar := around_any text ed.p (ed.p + ed.c) w4 (by omega) he (by omega)
  rw [show ((ed.p + ed.c : Nat) : Int) = (ed.p : Int) + (ed.c : Int) by omega] at ar
  have AR := Lib.hid ar
  clear ar
  clear d0 d1 d2 hb4 CK hw3 HBX3 HBE3 BX4
  go_wp2_with fail
  refine AR.out.mono ?_
  rintro e w' ⟨⟨lo, hi, rfl, hao⟩, rfl⟩
  have HAO := Lib.hid hao
  have hl1 := hao.l1
  have hh1 := hao.h1
  have hh2 : hi ≤ text.size := by have := hao.h2; simpa using this
  clear hao AR
  go_wp2_with fail
  obtain ⟨dd, hdd⟩ : ∃ dd : Int, (ed.put.size : Int) - (ed.c : Int) = dd := ⟨_, rfl⟩
  rw [hdd]
  have dd1 : -300 ≤ dd := by omega
  have dd2 : dd ≤ 100 := by omega
  have HDD := Lib.hid hdd
  have T0 := Tbl.below (Tbl.made w4) ((Below.refl _ _).alloc (Nat.le_refl _) (.cells #[.map (some w4.heap.size)] 76))
  have B0 := Blk.new (w4.alloc (.map #[] 0)) 76 #[.map (some w4.heap.size)]
  have hsz : (w4.alloc (.map #[] 0)).heap.size = w4.heap.size + 1 := by simp
  rw [hsz] at B0
  have BEN : Below w4.heap.size w4 ((w4.alloc (.map #[] 0)).alloc (.cells #[.map (some w4.heap.size)] 76)) := ((Below.refl _ _).alloc (Nat.le_refl _) _).alloc (by simp) _
  have TS5 : Hid (TabSt ((w4.alloc (.map #[] 0)).alloc (.cells #[.map (some w4.heap.size)] 76)) (w4.heap.size + 1) w4.heap.size (w4.heap.size + 1) 0 (noteP [])) := Lib.hid ⟨B0, T0, by simp⟩
  have BE5 := Lib.hid (BE4.out.trans (BEN.mono BE4.out.size))
  have BX5 := Lib.hid (HBX4.out.below BEN HBX4.out.lt)
  have hw4 := HBX4.out.lt
  clear hdd T0 B0 hsz BEN HBX4 BE4 e0 e1 e2
  generalize (w4.alloc (.map #[] 0)).alloc (.cells #[.map (some w4.heap.size)] 76) = W5 at *
  obtain ⟨b, hb⟩ : ∃ b, w4.heap.size = b := ⟨_, rfl⟩
  rw [hb] at TS5 hw4 ⊢
  clear hb
  generalize hbv9 : b + 1 = bv at *
  obtain ⟨base, hbase⟩ : ∃ base, bv = base := ⟨_, rfl⟩
  have TS5 : Hid (TabSt W5 bv b base 0 (noteP [])) := by rw [← hbase]; exact TS5
  clear hbv9 hbase
  have hsum : ((l.map (fun x => x.at_.length)).sum) ≤ text.size + 1 := by
    have h1 := places_sum (l.map WV.k) (wordsOf text) (HW.out.ok.up.imp fun h => h.2)
    rw [List.map_map] at h1
    have h2 : l.map ((fun k => (placesOf (wordsOf text) k).length) ∘ WV.k) = l.map (fun x => x.at_.length) := List.map_congr_left fun x hx => by simp only [Function.comp, HW.out.at_ x hx]
    rw [h2] at h1
    have h3 : (wordsOf text).length ≤ text.data.toList.length + 1 := wds_count _ _ _
    have h4 : text.data.toList.length = text.size := by simp
    omega
  have HSUM := Lib.hid hsum
  have hll := HW.out.len
  obtain ⟨pr, hpr⟩ : ∃ pr : WV → List UInt8 × List Int, pr = fun x => (x.k, x.at_) := ⟨_, rfl⟩
  have HPR := Lib.hid hpr
  have hsub : ∀ m : List WV, m.Sublist l → (noteL lo hi dd (m.map pr)).length ≤ text.size + 1 := fun m hm => by
    refine Nat.le_trans (noteL_len _ _ _ _) (Nat.le_trans ?_ HSUM.out)
    rw [List.map_map, HPR.out]
    exact sub_sum (hm.map (fun x => x.at_.length))
  have HSUB := Lib.hid hsub
  clear hsum hpr hsub
  go_loopw [59] (fun vi W => ∃ i n : Nat, i ≤ l.length ∧ vi = .int .i64 (i : Int) ∧ n ≤ (noteL lo hi dd ((l.take i).map pr)).length ∧ TabSt W bv b base n (noteP (noteL lo hi dd ((l.take i).map pr))) ∧ ∀ B, B ≤ b → Below B W5 W) (fun vi _ => l.length - (intOf vi).toNat)
  case atStart => exact ⟨0, 0, Nat.zero_le _, rfl, Nat.zero_le _, TS5.out, fun B _ => Below.refl _ _⟩
  case round =>
    obtain ⟨i, n, hi9, rfl, hn, hts, hbe⟩ := hrel
    have HTS := Lib.hid hts
    have HBB := Lib.hid hbe
    clear hts hbe
    rcases Nat.lt_or_ge i l.length with hlt | hge
    · have k1 : (i : Int) < (l.length : Int) := by omega
      have k2 : (0 : Int) ≤ (i : Int) := by omega
      have bw : Below w.heap.size w wr := BE5.out.trans (HBB.out _ (by omega))
      obtain ⟨_, _, e9, _, _, hrd⟩ := HL.out.row
      injection e9 with e91 e92 e93
      subst e91; subst e93
      obtain ⟨b0, o0, rfl, d01, d02, d03⟩ := CRow.at2 (x := fun x : WV => Value.string ⟨x.k.toArray⟩) (y := fun x : WV => x.v) (hrd.below bw) hlt
      have ra := HL.out.at_ _ (List.getElem_mem hlt)
      have hxk0 := (HW.out.ok.mem l[i].k).1 (List.mem_map_of_mem (List.getElem_mem hlt))
      have hxat := HW.out.at_ _ (List.getElem_mem hlt)
      have htk : l.take (i + 1) = l.take i ++ [l[i]] := List.take_succ_eq_append_getElem hlt
      generalize l[i] = x at *
      have hxk := hxk0.1
      obtain ⟨Ax, cx, ev, hcx1, hcx2, _, hrx⟩ := id ra
      rw [ev] at d03
      obtain ⟨la, hla⟩ : ∃ la, x.at_.length = la := ⟨_, rfl⟩
      rw [hla] at d03 hrx hcx1
      have HLA := Lib.hid hla
      have HXAT := Lib.hid hxat
      have HRX := Lib.hid hrx
      have HTK := Lib.hid htk
      have BW := Lib.hid bw
      unfold maxLen at hcx2
      clear hla hrx htk bw ra hrd e92 d01 ev hxk0 hxat
      have BX9 := Blk.new wr 42 #[.string ⟨x.k.toArray⟩, .slice Ax la cx]
      have BN9 : Below wr.heap.size wr (wr.alloc (.cells #[.string ⟨x.k.toArray⟩, .slice Ax la cx] 42)) := (Below.refl _ _).alloc (Nat.le_refl _) _
      have TS9 := Lib.hid (HTS.out.below BN9)
      have HBX9 := Lib.hid BX9
      have HBB9 := Lib.hid (fun B (hB : B ≤ b) => (HBB.out B hB).trans (BN9.mono (by have := (HTS.out.tbl.lt).1; omega)))
      have hlen9 := HSUB.out (l.take (i + 1)) (List.take_sublist _ _)
      rw [HTK.out, List.map_append, noteL_append] at hlen9
      obtain ⟨E0, hE0⟩ : ∃ E0, noteL lo hi dd ((l.take i).map pr) = E0 := ⟨_, rfl⟩
      have hone : noteL lo hi dd ([x].map pr) = (noteZ lo hi dd x.at_).map (fun z => (x.k, z)) := by rw [HPR.out]; simp [noteL]
      rw [hone] at hlen9
      rw [hE0] at hlen9 TS9 hn
      have HLEN9 := Lib.hid hlen9
      have HONE := Lib.hid hone
      have HE0 := Lib.hid hE0
      clear BX9 BN9 HTS HBB hlen9 hone hE0
      go_wp2_with fail
      generalize (wr.alloc (.cells #[.string ⟨x.k.toArray⟩, .slice Ax la cx] 42)) = W9 at *
      generalize wr.heap.size = t9 at *
      go_loopw [66] (fun vk W => ∃ k n : Nat, k ≤ la ∧ vk = .int .i64 (k : Int) ∧ n ≤ (E0 ++ (noteZ lo hi dd (x.at_.take k)).map (fun z => (x.k, z))).length ∧ TabSt W bv b base n (noteP (E0 ++ (noteZ lo hi dd (x.at_.take k)).map (fun z => (x.k, z)))) ∧ Blk W t9 42 #[.string ⟨x.k.toArray⟩, .slice Ax la cx] ∧ ∀ B, B ≤ b → Below B W5 W) (fun vk _ => la - (intOf vk).toNat)
      case atStart => exact ⟨0, n, Nat.zero_le _, rfl, by simpa [noteZ] using hn, by simpa [noteZ] using TS9.out, HBX9.out, HBB9.out⟩
      case round =>
        clear TS9 HBX9 HBB9 hn d02 d03 BW
        obtain ⟨k, n, hk, rfl, hn, hts, hbw, hbe⟩ := hrel
        have HTS := Lib.hid hts
        have HBW := Lib.hid hbw
        have HBB := Lib.hid hbe
        have g0 := hbw.cell 0
        clear hts hbw hbe
        rcases Nat.lt_or_ge k la with hkl | hkg
        · have k3 : (k : Int) < (la : Int) := by omega
          have k4 : (0 : Int) ≤ (k : Int) := by omega
          have bw : Below w.heap.size w wr := BE5.out.trans (HBB.out _ (by omega))
          obtain ⟨ga, oa, rfl, _, hz⟩ := Row.at_ (show Reads wr w.heap.size 1 Ax x.at_.length (x.at_.map (.int .i64)) by rw [HLA.out]; exact HRX.out.below bw) (show k < x.at_.length by rw [HLA.out]; exact hkl)
          obtain ⟨zp, hzp, _, hzp2, _⟩ := place_ok text.data.toList x.k (x.at_.getD k 0) (by
            have h9 := HXAT.out
            unfold wordsOf at h9
            rw [← h9, List.getD_eq_getElem?_getD, List.getElem?_eq_getElem (by rw [HLA.out]; exact hkl)]
            exact List.getElem_mem _)
          have hzt : text.data.toList.length = text.size := by simp
          obtain ⟨z, hze⟩ : ∃ z : Int, x.at_.getD k 0 = z := ⟨_, rfl⟩
          rw [hze] at hz hzp
          have z1 : 0 ≤ z := by omega
          have z2 : z ≤ 300 := by omega
          have hstep : E0 ++ (noteZ lo hi dd (x.at_.take (k + 1))).map (fun z => (x.k, z)) = (E0 ++ (noteZ lo hi dd (x.at_.take k)).map (fun z => (x.k, z))) ++ (noteZ lo hi dd [z]).map (fun z => (x.k, z)) := by
            have h9 : x.at_.take (k + 1) = x.at_.take k ++ [z] := by
              rw [List.take_succ_eq_append_getElem (by rw [HLA.out]; exact hkl)]
              congr 2
              rw [← hze, List.getD_eq_getElem?_getD, List.getElem?_eq_getElem (by rw [HLA.out]; exact hkl)]
              rfl
            rw [h9, noteZ_append, List.map_append, List.append_assoc]
          have hnb : n ≤ 400 := by
            have h9 : x.at_ = x.at_.take k ++ x.at_.drop k := (List.take_append_drop k x.at_).symm
            have h8 := HLEN9.out
            rw [h9, noteZ_append] at h8
            simp only [List.length_append, List.length_map] at h8 hn
            omega
          rw [noteZ_one] at hstep
          obtain ⟨DD, hDD⟩ : ∃ DD, E0 ++ (noteZ lo hi dd (x.at_.take k)).map (fun z => (x.k, z)) = DD := ⟨_, rfl⟩
          rw [hDD] at hstep hn HTS
          have HSTEP := Lib.hid hstep
          clear hstep hDD hze hzp hzp2 hzt
          go_wp2_with fail
          · have zl : z < (lo : Int) := by assumption
            have HS := Lib.hid (HSTEP.out.trans (show DD ++ (if z < (lo : Int) then [z] else if (hi : Int) ≤ z then [z + dd] else []).map (fun z => (x.k, z)) = DD ++ [(x.k, z)] by rw [if_pos zl]; rfl))
            have hs9 : (⟨x.k.toArray⟩ : ByteArray).size ≤ maxLen := size_le_of _ _ hxk
            obtain ⟨hv, ⟨D9, hown, hD⟩, hlow⟩ := HTS.out
            obtain ⟨hb1, hb2⟩ := Tbl.lt ⟨D9, hown, hD⟩
            have hkey : keyOf Try.prog 9 (.string ⟨x.k.toArray⟩) = some (.string (⟨x.k.toArray⟩ : ByteArray).data.toList) := keyOf_string_mk Try.underlying9 hs9
            obtain ⟨v9, zs9, hrun, hat, hoi, hzl, hback⟩ := look_all hown table_law Try.underlying76 zeroInts (by unfold maxLen; omega) hkey
            have hzg : zs9 = noteP DD ⟨x.k.toArray⟩ := datI_eq hoi ((hD _ hs9).1.symm.trans hat)
            have hvl := hv.lt
            have hbvb : bv ≠ b := by
              obtain ⟨es, clock, hb, _⟩ := id hown
              rintro rfl
              unfold Blk at hv
              rw [hb] at hv
              cases hv
            have htl := HBW.out.lt
            have HRN := Lib.hid hrun
            have HOI := Lib.hid hoi
            have HB9 := Lib.hid hback
            have HD9 := Lib.hid hD
            have HM9 := Lib.hid (ownsGroups_isMap hown)
            have HZG := Lib.hid hzg
            have HV9 := Lib.hid hv
            clear hrun hat hoi hback hD hown hzg hv hkey
            refine wp_region_mix 8 2 (Still3 wr bv b t9) (by kernel_rfl) (by kernel_rfl) (fun W1 W2 h1 h2 => ⟨h1.1.below h2 (Still0 h1.1 hvl hb1).1 (Still0 h1.1 hvl hb1).2, (h2.block t9 (by have h3 := h1.2; rw [Array.getElem?_eq_getElem htl] at h3; exact (Array.getElem?_eq_some_iff.1 h3).1)).trans h1.2⟩) ⟨⟨rfl, rfl⟩, rfl⟩ ?_
            intro ι F hne hF
            have c0F : ∀ i, (F i).cell? ⟨bv, 0, none⟩ = some (.map (some b)) := fun i => by
              have : Blk (F i) bv 76 #[.map (some b)] := (hF i).1.1.trans HV9.out
              exact this.cell 0
            have c1F : ∀ i, (F i).cell? ⟨t9, 0, none⟩ = some (.string ⟨x.k.toArray⟩) := fun i => by
              have : Blk (F i) t9 42 #[.string ⟨x.k.toArray⟩, .slice (some ⟨ga, oa, none⟩) la cx] := (hF i).2.trans HBW.out
              exact this.cell 0
            have lkF : ∀ i, (Instr.lookup 76 (.map (some b)) (.string ⟨x.k.toArray⟩) false).run Try.prog (F i) = .ok v9 (F i) := fun i => HRN.out (F i) (hF i).1.2
            simp only [List.take_succ_cons, List.take_zero, List.drop_succ_cons, List.drop_zero]
            repeat (refine wpB_step (fun K hK => ?_); go_simp; first | (refine hK _ ?_; clear hK K) | (apply Exists.intro; refine ⟨fun _ => ?_, hK _ ?_⟩; (fail); clear hK K))
            refine wpB_nil ?_
            intro w2 hw2 hI2
            clear c0F c1F lkF hF
            have hs2 := Still0 hI2.1 hvl hb1
            (refine wpR_step (fun K hK => ?_); go_simp; refine hK _ _ ⟨⟨hI2.1.below ((Below.refl _ _).alloc (Nat.le_refl _) _) hs2.1 hs2.2, (((Below.refl w2.heap.size w2).alloc (Nat.le_refl _) _).block t9 (Nat.lt_of_lt_of_le htl hw2.size)).trans hI2.2⟩, ?_⟩; clear hK K)
            intro w3 hw3 hI3
            have hb3 : Below wr.heap.size wr w3 := bstep (hw2.alloc hw2.size _) hw3
            have ho3 := own_below HOI.out.1 hb3
            have hr3 := (Reads.new w2 [.int .i64 (z)] 3 1 rfl).below hw3
            have hlow3 : base ≤ w3.heap.size := Nat.le_trans hlow hb3.size
            clear hw3 hw2 hI2 hs2
            refine wpR_append_w rfl (.tmp 80) (.tmp 82) _ rfl base 3 _ 1 8 Try.underlying22 int_info2 rfl (by decide) v9 zs9.length (zs9.map (Value.int .i64)) rfl ho3 _ (some ⟨w2.heap.size, 0, none⟩) 1 1 [.int .i64 (z)] rfl hr3 (by simp [Value.oneCell']) (by unfold maxLen; omega) (by omega) hlow3 ?_
            intro v' w4 ho4 hg4 hat4
            have hs3 := Still0 hI3.1 hvl hb1
            have hbv : some bv ≠ v9.ownBlock := fun e => own_blk_ne HOI.out.1 HV9.out (by decide) e.symm
            have hbb : some b ≠ v9.ownBlock := fun e => by have := (HOI.out.1.lt b e.symm).1; omega
            have hbt : some t9 ≠ v9.ownBlock := fun e => own_blk_ne HOI.out.1 HBW.out (by decide) e.symm
            have hI4 : Still3 wr bv b t9 w4 := ⟨hI3.1.grown hg4 hs3.1 hs3.2 hbv hbb, (hg4.block t9 (Nat.lt_of_lt_of_le htl hb3.size) hbt).trans hI3.2⟩
            refine ⟨hI4, ?_⟩
            intro w5 hw5 hI5
            have ho5 := own_below ho4 hw5
            have hg5 := ((grown_of_below hb3 v9.ownBlock).trans hg4).trans (grown_of_below hw5 v9.ownBlock)
            have hwf : (Lit.int .i64 (z)).wf = true := WalkArith.wf_i64 (by omega)
            have hoi5 : w5.ownsInts base 3 .i64 v' (zs9 ++ [z]) := by
              refine ⟨by simpa using ho5, fun z hz => ?_⟩
              rcases List.mem_append.1 hz with hz | hz
              · exact HOI.out.2 z hz
              · rw [List.mem_singleton.1 hz]; exact hwf
            have hloc : v'.ownBlock = v9.ownBlock ∨ ∃ q, v'.ownBlock = some q ∧ wr.heap.size ≤ q := hat4.imp id (fun e => ⟨_, e, hb3.size⟩)
            have HG5 := Lib.hid hg5
            have HOI5 := Lib.hid hoi5
            have HLOC := Lib.hid hloc
            have HI5 := Lib.hid hI5
            clear ho4 hg4 hat4 hI4 hw5 hI5 ho5 hg5 hoi5 hloc hb3 ho3 hr3 hI3 hs3 hwf
            refine wpR_nil ?_
            go_wp2_with (at_mapUpdate; refine wpList_mapUpdate_back _ rfl _ _ _ 76 rfl HB9.out rfl rfl rfl HG5.out HOI5.out (by simp; omega) HLOC.out ?_)
            intro w6 hown6 hg6
            have BV6 : Blk w6 bv 76 #[.map (some b)] := (hg6.block bv (Nat.lt_of_lt_of_le hvl HG5.out.size) (fun e => hbvb (Option.some.inj e))).trans (HI5.out.1.1.trans HV9.out)
            have TB6 := Tbl.put HD9.out HM9.out hs9 (show zs9 ++ [z] ≠ [] by simp) HOI5.out hown6
            rw [HZG.out] at TB6
            have BE6 : ∀ B, B ≤ b → Below B wr w6 := fun B hB => (Below.refl B wr).groups HOI.out HG5.out hg6 (by omega) (by omega) hB
            have LO6 : base ≤ w6.heap.size := Nat.le_trans hlow (Nat.le_trans HG5.out.size hg6.size)
            have TS6 : TabSt w6 bv b base (n + 1) (noteP (DD ++ [(x.k, z)])) := ⟨BV6, by rw [← noteP_snoc]; exact TB6, LO6⟩
            have BW6 : Blk w6 t9 42 #[.string ⟨x.k.toArray⟩, .slice (some ⟨ga, oa, none⟩) la cx] := (hg6.block t9 (Nat.lt_of_lt_of_le htl HG5.out.size) (fun e => by
              have e1 : t9 = b := Option.some.inj e
              have h8 := HBW.out
              obtain ⟨es, clock, hbm, _⟩ := id (show ∃ es clock, wr.heap[b]? = some (.map es clock) ∧ True from by
                obtain ⟨_, ⟨D8, ⟨es, clock, hb8, _⟩, _⟩, _⟩ := HTS.out
                exact ⟨es, clock, hb8, trivial⟩)
              unfold Blk at h8
              rw [e1, hbm] at h8
              cases h8)).trans (HI5.out.2.trans HBW.out)
            have H6 := Lib.hid (And.intro TS6 (And.intro BE6 BW6))
            clear hown6 hg6 BV6 TB6 BE6 LO6 TS6 BW6 HG5 HOI5 HLOC HI5 HRN HOI HB9 HD9 HM9 HZG HV9
            go_wp2_with fail
            exact ⟨⟨k + 1, n + 1, by omega, by go_num, by rw [HS.out, List.length_append, List.length_singleton]; omega, by rw [HS.out]; exact H6.out.1, H6.out.2.2, fun B hB => (HBB.out B hB).trans (H6.out.2.1 B hB)⟩, by simp [intOf]; omega⟩
          · have zl : (lo : Int) ≤ z := by assumption
            have zh : (hi : Int) ≤ z := by assumption
            have HS := Lib.hid (HSTEP.out.trans (show DD ++ (if z < (lo : Int) then [z] else if (hi : Int) ≤ z then [z + dd] else []).map (fun z => (x.k, z)) = DD ++ [(x.k, z + dd)] by rw [if_neg (by omega), if_pos zh]; rfl))
            have hwr : IntKind.i64.wrap (z + dd) = z + dd := IntWalk.i64_in _ (by omega)
            have hs9 : (⟨x.k.toArray⟩ : ByteArray).size ≤ maxLen := size_le_of _ _ hxk
            obtain ⟨hv, ⟨D9, hown, hD⟩, hlow⟩ := HTS.out
            obtain ⟨hb1, hb2⟩ := Tbl.lt ⟨D9, hown, hD⟩
            have hkey : keyOf Try.prog 9 (.string ⟨x.k.toArray⟩) = some (.string (⟨x.k.toArray⟩ : ByteArray).data.toList) := keyOf_string_mk Try.underlying9 hs9
            obtain ⟨v9, zs9, hrun, hat, hoi, hzl, hback⟩ := look_all hown table_law Try.underlying76 zeroInts (by unfold maxLen; omega) hkey
            have hzg : zs9 = noteP DD ⟨x.k.toArray⟩ := datI_eq hoi ((hD _ hs9).1.symm.trans hat)
            have hvl := hv.lt
            have hbvb : bv ≠ b := by
              obtain ⟨es, clock, hb, _⟩ := id hown
              rintro rfl
              unfold Blk at hv
              rw [hb] at hv
              cases hv
            have htl := HBW.out.lt
            have HRN := Lib.hid hrun
            have HOI := Lib.hid hoi
            have HB9 := Lib.hid hback
            have HD9 := Lib.hid hD
            have HM9 := Lib.hid (ownsGroups_isMap hown)
            have HZG := Lib.hid hzg
            have HV9 := Lib.hid hv
            clear hrun hat hoi hback hD hown hzg hv hkey
            refine wp_region_mix 10 2 (Still3 wr bv b t9) (by kernel_rfl) (by kernel_rfl) (fun W1 W2 h1 h2 => ⟨h1.1.below h2 (Still0 h1.1 hvl hb1).1 (Still0 h1.1 hvl hb1).2, (h2.block t9 (by have h3 := h1.2; rw [Array.getElem?_eq_getElem htl] at h3; exact (Array.getElem?_eq_some_iff.1 h3).1)).trans h1.2⟩) ⟨⟨rfl, rfl⟩, rfl⟩ ?_
            intro ι F hne hF
            have c0F : ∀ i, (F i).cell? ⟨bv, 0, none⟩ = some (.map (some b)) := fun i => by
              have : Blk (F i) bv 76 #[.map (some b)] := (hF i).1.1.trans HV9.out
              exact this.cell 0
            have c1F : ∀ i, (F i).cell? ⟨t9, 0, none⟩ = some (.string ⟨x.k.toArray⟩) := fun i => by
              have : Blk (F i) t9 42 #[.string ⟨x.k.toArray⟩, .slice (some ⟨ga, oa, none⟩) la cx] := (hF i).2.trans HBW.out
              exact this.cell 0
            have lkF : ∀ i, (Instr.lookup 76 (.map (some b)) (.string ⟨x.k.toArray⟩) false).run Try.prog (F i) = .ok v9 (F i) := fun i => HRN.out (F i) (hF i).1.2
            simp only [List.take_succ_cons, List.take_zero, List.drop_succ_cons, List.drop_zero]
            repeat (refine wpB_step (fun K hK => ?_); go_simp; first | (refine hK _ ?_; clear hK K) | (apply Exists.intro; refine ⟨fun _ => ?_, hK _ ?_⟩; (fail); clear hK K))
            refine wpB_nil ?_
            intro w2 hw2 hI2
            clear c0F c1F lkF hF
            have hs2 := Still0 hI2.1 hvl hb1
            (refine wpR_step (fun K hK => ?_); go_simp; refine hK _ _ ⟨⟨hI2.1.below ((Below.refl _ _).alloc (Nat.le_refl _) _) hs2.1 hs2.2, (((Below.refl w2.heap.size w2).alloc (Nat.le_refl _) _).block t9 (Nat.lt_of_lt_of_le htl hw2.size)).trans hI2.2⟩, ?_⟩; clear hK K)
            intro w3 hw3 hI3
            have hb3 : Below wr.heap.size wr w3 := bstep (hw2.alloc hw2.size _) hw3
            have ho3 := own_below HOI.out.1 hb3
            have hr3 := (Reads.new w2 [.int .i64 (z + dd)] 3 1 rfl).below hw3
            have hlow3 : base ≤ w3.heap.size := Nat.le_trans hlow hb3.size
            clear hw3 hw2 hI2 hs2
            refine wpR_append_w rfl (.tmp 94) (.tmp 98) _ rfl base 3 _ 1 8 Try.underlying22 int_info2 rfl (by decide) v9 zs9.length (zs9.map (Value.int .i64)) rfl ho3 _ (some ⟨w2.heap.size, 0, none⟩) 1 1 [.int .i64 (z + dd)] rfl hr3 (by simp [Value.oneCell']) (by unfold maxLen; omega) (by omega) hlow3 ?_
            intro v' w4 ho4 hg4 hat4
            have hs3 := Still0 hI3.1 hvl hb1
            have hbv : some bv ≠ v9.ownBlock := fun e => own_blk_ne HOI.out.1 HV9.out (by decide) e.symm
            have hbb : some b ≠ v9.ownBlock := fun e => by have := (HOI.out.1.lt b e.symm).1; omega
            have hbt : some t9 ≠ v9.ownBlock := fun e => own_blk_ne HOI.out.1 HBW.out (by decide) e.symm
            have hI4 : Still3 wr bv b t9 w4 := ⟨hI3.1.grown hg4 hs3.1 hs3.2 hbv hbb, (hg4.block t9 (Nat.lt_of_lt_of_le htl hb3.size) hbt).trans hI3.2⟩
            refine ⟨hI4, ?_⟩
            intro w5 hw5 hI5
            have ho5 := own_below ho4 hw5
            have hg5 := ((grown_of_below hb3 v9.ownBlock).trans hg4).trans (grown_of_below hw5 v9.ownBlock)
            have hwf : (Lit.int .i64 (z + dd)).wf = true := WalkArith.wf_i64 (by omega)
            have hoi5 : w5.ownsInts base 3 .i64 v' (zs9 ++ [z + dd]) := by
              refine ⟨by simpa using ho5, fun z hz => ?_⟩
              rcases List.mem_append.1 hz with hz | hz
              · exact HOI.out.2 z hz
              · rw [List.mem_singleton.1 hz]; exact hwf
            have hloc : v'.ownBlock = v9.ownBlock ∨ ∃ q, v'.ownBlock = some q ∧ wr.heap.size ≤ q := hat4.imp id (fun e => ⟨_, e, hb3.size⟩)
            have HG5 := Lib.hid hg5
            have HOI5 := Lib.hid hoi5
            have HLOC := Lib.hid hloc
            have HI5 := Lib.hid hI5
            clear ho4 hg4 hat4 hI4 hw5 hI5 ho5 hg5 hoi5 hloc hb3 ho3 hr3 hI3 hs3 hwf
            refine wpR_nil ?_
            go_wp2_with (at_mapUpdate; refine wpList_mapUpdate_back _ rfl _ _ _ 76 rfl HB9.out rfl rfl rfl HG5.out HOI5.out (by simp; omega) HLOC.out ?_)
            intro w6 hown6 hg6
            have BV6 : Blk w6 bv 76 #[.map (some b)] := (hg6.block bv (Nat.lt_of_lt_of_le hvl HG5.out.size) (fun e => hbvb (Option.some.inj e))).trans (HI5.out.1.1.trans HV9.out)
            have TB6 := Tbl.put HD9.out HM9.out hs9 (show zs9 ++ [z + dd] ≠ [] by simp) HOI5.out hown6
            rw [HZG.out] at TB6
            have BE6 : ∀ B, B ≤ b → Below B wr w6 := fun B hB => (Below.refl B wr).groups HOI.out HG5.out hg6 (by omega) (by omega) hB
            have LO6 : base ≤ w6.heap.size := Nat.le_trans hlow (Nat.le_trans HG5.out.size hg6.size)
            have TS6 : TabSt w6 bv b base (n + 1) (noteP (DD ++ [(x.k, z + dd)])) := ⟨BV6, by rw [← noteP_snoc]; exact TB6, LO6⟩
            have BW6 : Blk w6 t9 42 #[.string ⟨x.k.toArray⟩, .slice (some ⟨ga, oa, none⟩) la cx] := (hg6.block t9 (Nat.lt_of_lt_of_le htl HG5.out.size) (fun e => by
              have e1 : t9 = b := Option.some.inj e
              have h8 := HBW.out
              obtain ⟨es, clock, hbm, _⟩ := id (show ∃ es clock, wr.heap[b]? = some (.map es clock) ∧ True from by
                obtain ⟨_, ⟨D8, ⟨es, clock, hb8, _⟩, _⟩, _⟩ := HTS.out
                exact ⟨es, clock, hb8, trivial⟩)
              unfold Blk at h8
              rw [e1, hbm] at h8
              cases h8)).trans (HI5.out.2.trans HBW.out)
            have H6 := Lib.hid (And.intro TS6 (And.intro BE6 BW6))
            clear hown6 hg6 BV6 TB6 BE6 LO6 TS6 BW6 HG5 HOI5 HLOC HI5 HRN HOI HB9 HD9 HM9 HZG HV9
            go_wp2_with fail
            exact ⟨⟨k + 1, n + 1, by omega, by go_num, by rw [HS.out, List.length_append, List.length_singleton]; omega, by rw [HS.out]; exact H6.out.1, H6.out.2.2, fun B hB => (HBB.out B hB).trans (H6.out.2.1 B hB)⟩, by simp [intOf]; omega⟩
          · have zl : (lo : Int) ≤ z := by assumption
            have zh : z < (hi : Int) := by assumption
            have HS := Lib.hid (HSTEP.out.trans (show DD ++ (if z < (lo : Int) then [z] else if (hi : Int) ≤ z then [z + dd] else []).map (fun z => (x.k, z)) = DD by rw [if_neg (by omega), if_neg (by omega)]; simp))
            exact ⟨⟨k + 1, n, by omega, by go_num, by rw [HS.out]; exact hn, by rw [HS.out]; exact HTS.out, HBW.out, HBB.out⟩, by simp [intOf]; omega⟩
        · have k3 : decide ((k : Int) < (la : Int)) = false := decide_eq_false (by omega)
          obtain rfl : k = la := by omega
          have hE9 : noteL lo hi dd ((l.take (i + 1)).map pr) = E0 ++ (noteZ lo hi dd (x.at_.take k)).map (fun z => (x.k, z)) := by
            rw [HTK.out, List.map_append, noteL_append, HE0.out, HONE.out, List.take_of_length_le (by rw [HLA.out]; exact Nat.le_refl _)]
          have HE9 := Lib.hid hE9
          clear hE9
          go_wp2_with fail
          exact ⟨⟨i + 1, n, by omega, by go_num, by rw [HE9.out]; exact hn, by rw [HE9.out]; exact HTS.out, HBB.out⟩, by simp [intOf]; omega⟩
    · have k1 : decide ((i : Int) < (l.length : Int)) = false := decide_eq_false (by omega)
      have bx := BX5.out.below (HBB.out b (Nat.le_refl _)) hw4
      have e0 := bx.cell 0
      have e1 := bx.cell 1
      have e2 := bx.cell 2
      have MA := Lib.hid (made_any text ed.p ed.c ed.put wr he (by omega) (by omega))
      obtain rfl : i = l.length := by omega
      rw [List.take_length] at hn HTS
      have hnb : n ≤ text.size + 1 := Nat.le_trans hn (HSUB.out l (List.Sublist.refl _))
      have htl9 := HTS.out.tbl.lt
      clear bx hn
      go_wp2_with fail
      refine MA.out.mono ?_
      rintro e w6 ⟨rfl, hb6⟩
      have HTS6 := Lib.hid (HTS.out.below hb6)
      have HBB6 := Lib.hid (fun B (hB : B ≤ b) => (HBB.out B hB).trans (hb6.mono (by omega)))
      have hms : (mk text ed).size = text.size + ed.put.size - ed.c := mk_size text ed he
      obtain ⟨hj, hhj⟩ : ∃ hj : Nat, (hj : Int) = (hi : Int) + dd := ⟨((hi : Int) + dd).toNat, by have := HDD.out; omega⟩
      have hj1 : lo ≤ hj := by have := HDD.out; omega
      have hj2 : hj ≤ (mk text ed).size := by have := HDD.out; omega
      have ea := each2_any (mk text ed) lo hj bv b base n _ w6 HTS6.out hj1 hj2 (by omega) (by omega)
      rw [hhj] at ea
      have EA := Lib.hid ea
      have HHJ := Lib.hid hhj
      have HMS := Lib.hid hms
      clear hb6 hhj ea HTS HBB MA e0 e1 e2 htl9 hms
      have emk : mk text ⟨ed.p, ed.c, ed.put⟩ = mk text ed := rfl
      rw [emk]
      go_wp2_with fail
      refine EA.out.mono ?_
      rintro e w7 ⟨rfl, ⟨n7, hn7, hts7⟩, hbe7⟩
      have HTS7 := Lib.hid hts7
      have HBB7 := Lib.hid (fun B (hB : B ≤ b) => (HBB6.out B hB).trans (hbe7 B hB))
      obtain ⟨G7, hG7⟩ : ∃ G7, noteAll (noteP (noteL lo hi dd (l.map pr))) (wordsIn (mk text ed).data.toList lo hj) = G7 := ⟨_, rfl⟩
      rw [hG7] at HTS7
      have HG7 := Lib.hid hG7
      have hn7b : n7 ≤ 1000 := by have := HMS.out; omega
      obtain ⟨es, clock, hE, hbm, hrw⟩ := HTS7.out.tbl.ents
      obtain ⟨D, hD⟩ : ∃ D, IsDV es D := ⟨_, rfl⟩
      have hown7 := hE.owns hbm hD
      have c7 := HTS7.out.blk.cell 0
      have HE := Lib.hid hE
      have HBM := Lib.hid hbm
      have HRW := Lib.hid hrw
      have HDV := Lib.hid hD
      clear hts7 hbe7 hG7 EA HTS6 HBB6 emk hE hbm hrw hD
      go_wp2_with (first | (at_range; refine wpList_range_own _ rfl _ 76 rfl 9 22 table_law Try.underlying76 RV b n7 D rfl hown7 ?_; intro w8 hrg8 hg8 hs8) | go_in)
      go_frame
      have hrb : ∀ x ∈ es.toList, x.val.ownBlock ≠ some w7.heap.size ∧ x.val.ownBlock ≠ some b := fun x hx => by
        obtain ⟨s, h1, _⟩ := HE.out.keys x hx
        have ho := HRW.out x hx s h1
        refine ⟨fun e => ?_, fun e => ?_⟩
        · have := (ho.1.lt _ e).2; omega
        · have := (ho.1.lt _ e).1; have := HE.out.lt; omega
      have HRB := Lib.hid hrb
      have R8 := Lib.hid (Rng.start HE.out HBM.out HDV.out HRW.out HTS7.out.low hrg8 hg8)
      have BV8 := Lib.hid (show Blk w8 bv 76 #[.map (some b)] from (hg8.block bv HTS7.out.blk.lt (by simp)).trans HTS7.out.blk)
      have HBB8 := Lib.hid (fun B (hB : B ≤ b) => (HBB7.out B hB).grown hg8 (by have := HTS7.out.tbl.lt; omega) (fun j hj => by cases hj))
      have bvlt := HTS7.out.blk.lt
      have blt := HTS7.out.tbl.lt
      clear hrb hrg8 hg8 c7 hown7
      go_loopw [20] (fun _ wr => ∃ (left : Lit → Bool) (cnt : Nat), Rng wr b base n7 w7.heap.size es clock G7 D left cnt ∧ Blk wr bv 76 #[.map (some b)] ∧ ∀ B, B ≤ b → Below B W5 wr) (fun _ wr => wr.rangeLeft b w7.heap.size)
      case atStart => exact ⟨_, _, R8.out, BV8.out, HBB8.out⟩
      case round =>
        clear R8 BV8 HBB8
        obtain ⟨left, cnt, hr9, hbv9, hbb9⟩ := hrel
        have HR9 := Lib.hid hr9
        have HBV9 := Lib.hid hbv9
        have HBB9 := Lib.hid hbb9
        clear hr9 hbv9 hbb9
        go_wp2_with (at_next; refine wpList_next_ranges _ rfl _ rfl 9 table_law RV (fun v => v) (fun v => v) (fun key kl _ => ⟨key, rfl⟩) (fun v y _ => ⟨v, rfl⟩) b w7.heap.size n7 D left cnt rfl HR9.out.rg ?_ ?_)
        · intro hc0 hl0
          have TD := Rng.done HE.out HR9.out hl0
          have c9 := HBV9.out.cell 0
          have LL := Lib.hid (list_any b base n7 _ wr TD (by omega))
          have hlt9 := HR9.out.low
          clear hc0 hl0 TD
          go_wp2_with fail
          refine LL.out.mono ?_
          rintro e w10 ⟨v10, l10, rfl, ho10, hr10, hok10, hat10, hll10, hb10⟩
          have hG : (fun s => ascI (G7 s)) = fun s => placesOf (wordsOf (mk text ed)) s.data.toList := by
            funext s
            have h9 := update_table text ed l lo hi hj dd HW.out he HAO.out HDD.out HHJ.out hj1 hj2 s
            rw [← HPR.out, HG7.out] at h9
            exact h9
          rw [hG] at hok10
          have hat11 : ∀ x ∈ l10, x.at_ = placesOf (wordsOf (mk text ed)) x.k := fun x hx => by
            have h9 := congrFun hG ⟨x.k.toArray⟩
            rw [hat10 x hx]
            exact h9
          have hbw : Below w.heap.size w wr := BE5.out.trans (HBB9.out _ (by omega))
          have hs10 := hbw.size
          have HA := Lib.hid (And.intro (own_low2 ho10 hs10) (And.intro (fun x (hx : x ∈ l10) => (⟨own_low2 (hr10 x hx).1 hs10, (hr10 x hx).2⟩ : w10.ownsInts w.heap.size 3 .i64 x.v x.at_)) (And.intro hok10 (And.intro hat11 (And.intro hll10 (hbw.trans (hb10.mono hs10)))))))
          clear ho10 hr10 hok10 hat10 hll10 hb10 hG hat11 hbw LL c9
          go_wp2_with fail
          go_ret2
          obtain ⟨a1, a2, a3, a4, a5, a6⟩ := HA.out
          exact ⟨v10, l10, rfl, a1, a2, a3, a4, a5, a6⟩
        · intro kx vx kl y1 y2 w9 cnt9 hk9 hlk9 hR9 hat9 hrg9 hlt9 hg9 hs9 hen9
          have hy : y1 = DataW.held vx := by
            have h9 := Option.some.inj (show some (DataW.held vx, ([] : List MemPlace)) = some (y1, y2) from hR9)
            injection h9 with h9 _
            exact h9.symm
          obtain ⟨e0, he0, hev, s9, hes, hkl⟩ := Rng.pick HE.out HBM.out HDV.out hk9 (fun zd => by rw [hat9, hy])
          subst hev
          subst hkl
          obtain ⟨s8, h1, h2, h3, h4⟩ := HE.out.keys e0 he0
          obtain rfl : s9 = s8 := by rw [hes] at h1; injection h1
          have ho := HR9.out.rows e0 he0 s9 hes
          rw [if_pos hlk9] at ho
          have ho9 := ho.kept hg9 (.inr (HRB.out e0 he0).1)
          have HO9 := Lib.hid ho9
          have SO := Lib.hid (sort1_any base e0.val (G7 s9) w9 ho9 (by omega) h3)
          have HRG := Lib.hid hrg9
          have HG9 := Lib.hid hg9
          have HES := Lib.hid hes
          have hne9 := HR9.out.rg.ne
          clear hy hat9 hR9 ho h1 h2 h3 h4 hrg9 hg9 hes hk9 hlk9
          go_wp2_with fail
          refine SO.out.mono ?_
          rintro e w10 ⟨rfl, hso, hgs⟩
          have RN := Lib.hid (Rng.step HE.out HR9.out he0 HES.out HRG.out HG9.out hne9 (fun x hx => (HRB.out x hx).1) hso hgs (HRB.out e0 he0).2 (HRB.out e0 he0).1)
          have hbr : bv < wr.heap.size := HBV9.out.lt
          have BV9 : Blk w9 bv 76 #[.map (some b)] := (HG9.out.block bv hbr (fun e => by have := Option.some.inj e; omega)).trans HBV9.out
          have BVN := Lib.hid (show Blk w10 bv 76 #[.map (some b)] from (hgs.block bv BV9.lt (fun e => own_blk_ne HO9.out.1 BV9 (by decide) e.symm)).trans BV9)
          have HBN := Lib.hid (fun B (hB : B ≤ b) => ((HBB9.out B hB).grown HG9.out (by have := HR9.out.low; omega) (fun j hj => by cases hj; omega)).grown hgs (by have := HG9.out.size; have := HR9.out.low; omega) (fun j hj => by have := (HO9.out.1.lt j hj).1; have := HE.out.lt; omega))
          clear hso hgs hbr BV9 SO
          go_wp2_with fail
          refine ⟨⟨_, _, RN.out, BVN.out, HBN.out⟩, ?_⟩
          rw [RN.out.rg.left_eq, HR9.out.rg.left_eq]
          exact hlt9
end Go.Proofs.Ytpgjjnbepkofdaa
