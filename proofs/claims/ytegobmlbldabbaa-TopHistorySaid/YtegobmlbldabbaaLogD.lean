/-
  The walk of log.Load: what it answers of bytes.
-/
import Derived.Test.YtegobmlbldabbaaLogQ
namespace Go.Proofs.Ytegobmlbldabbaa
open Go.RowKit
set_option linter.unusedVariables false

def LoadPost (b : List UInt8) (w : World) (e : Ending) (w' : World) : Prop :=
  ∃ v, e = .returned (.tuple #[.string (load b).s, v, .int .i64 ((load b).c : Int)]) ∧ w'.ownsRow w.heap.size 36 4 v (load b).l.length (cellsOf rdc (load b).l) ∧ Below w.heap.size w w'
theorem load_short (b : List UInt8) (h : b.length < 12) : load b = none_ 5 := by unfold load; rw [if_pos h]
theorem load_sum (b : List UInt8) (h : ¬ b.length < 12) (h2 : hv (b.take (b.length - 4)) ≠ (lsum (b.drop (b.length - 4)) : Int)) : load b = none_ 6 := by unfold load; rw [if_neg h, if_pos h2]
theorem load_body (b : List UInt8) (h : ¬ b.length < 12) (h2 : hv (b.take (b.length - 4)) = (lsum (b.drop (b.length - 4)) : Int)) : load b = loadB (b.take (b.length - 4)) := by
  unfold load; rw [if_neg h, if_neg (by simpa using h2)]
theorem lsum_snoc (l : List UInt8) (c : UInt8) : lsum (l ++ [c]) = lsum l * 256 + c.toNat := by simp [lsum]
theorem lsum_bd (l : List UInt8) : lsum l < 256 ^ l.length := by
  induction l using snoc_ind with
  | h0 => simp [lsum]
  | h1 l c ih =>
    have := c.toNat_lt
    rw [lsum_snoc, List.length_append, List.length_singleton, Nat.pow_succ]
    omega
theorem rtxt_lt (st : St) : (rtxt st).1.length < 65536 := by
  have h1 := rnum_lt st
  have h2 := (tk_len (rnum st).1 (rnum st).2).1
  have e : (rtxt st).1 = (tk (rnum st).1 (rnum st).2).1 := rfl
  rw [e]; omega
def rdB (d : Rd) : Prop := d.k ≤ 1000000 ∧ d.p ≤ 1000000 ∧ d.c ≤ 1000000 ∧ d.put.size ≤ 1000000
theorem rdeed_bd (st : St) : rdB (rdeed st).1 := by
  have h0 := ((tk 1 st).1.getD 0 0).toNat_lt
  unfold rdeed
  simp only
  split
  · have h1 := rnum_lt (tk 1 st).2
    have h2 := rnum_lt (rnum (tk 1 st).2).2
    have h3 := rtxt_lt (rnum (rnum (tk 1 st).2).2).2
    refine ⟨by simp only; omega, by simp only; omega, by simp only; omega, ?_⟩
    simp only [ByteArray.size, List.size_toArray]; omega
  · exact ⟨by simp only; omega, by simp, by simp, by simp [ByteArray.size]⟩
theorem rdeeds_bd (n : Nat) : ∀ st : St, ∀ d ∈ (rdeeds n st).1, rdB d := by
  induction n with
  | zero => intro st d hd; simp [rdeeds] at hd
  | succ n ih =>
    intro st d hd
    unfold rdeeds at hd
    split at hd
    · simp at hd
    · rcases List.mem_cons.1 hd with rfl | hd
      · exact rdeed_bd st
      · exact ih _ d hd
theorem rdeeds_len (n : Nat) : ∀ st : St, (rdeeds n st).1.length ≤ n := by
  induction n with
  | zero => intro st; simp [rdeeds]
  | succ n ih =>
    intro st
    unfold rdeeds
    split
    · simp
    · simp only [List.length_cons]; have := ih (rdeed st).2; omega
theorem rdeeds_stop (k : Nat) (st : St) (h : k = 0 ∨ st.bad = true) : rdeeds k st = ([], st) := by
  cases k with
  | zero => rfl
  | succ k =>
    unfold rdeeds
    rw [if_pos]
    rcases h with h | h
    · omega
    · exact h
theorem rdeeds_go (k : Nat) (st : St) (h : st.bad = false) : rdeeds (k + 1) st = ((rdeed st).1 :: (rdeeds k (rdeed st).2).1, (rdeeds k (rdeed st).2).2) := by
  simp only [rdeeds, h, if_neg (show ¬ (false = true) by decide)]
theorem RDm.grown {w w' : World} {R g : Nat} {st : St} (h : RDm w R g st) {row : Option Nat} (hg : w.grownBy w' row) (h1 : some R ≠ row) (h2 : some g ≠ row) : RDm w' R g st := by
  obtain ⟨o, c, a1, a2, a3, a4, a5, a6⟩ := h
  exact ⟨o, c, a1.grown hg h1, a2, a3, Nat.lt_of_lt_of_le a4 hg.size, a5, fun j u hu => (World.cell?_of_block (a := ⟨g, o + j, none⟩) (hg.block g a4 h2)).trans (a6 j u hu)⟩
def Rel3 (body : List UInt8) (w : World) (R g : Nat) (v n : Value) (wr : World) : Prop :=
  ∃ (k : Nat) (l : List Rd) (st : St), n = .int .i64 (k : Int) ∧ l.length + k ≤ 65535 ∧ wr.ownsRow w.heap.size 36 4 v l.length (cellsOf rdc l) ∧ RDm wr R g st ∧ l ++ (rdeeds k st).1 = (deeds0 body).1 ∧ (rdeeds k st).2 = (deeds0 body).2 ∧ Below w.heap.size w wr
set_option maxRecDepth 100000 in
set_option maxHeartbeats 8000000 in
theorem Load_long (g o c p : Nat) (b : List UInt8) (w : World) (hp : b.length = p + 8) (hp4 : 4 ≤ p) (h1 : p + 8 ≤ c) (h2 : c ≤ maxLen) (h3 : g < w.heap.size)
    (h4 : ∀ j u, (by8 b)[j]? = some u → w.cell? ⟨g, o + j, none⟩ = some u) (hl : p ≤ 140737488351232) :
    Calls Try.prog 17 #[.slice (some ⟨g, o, none⟩) (p + 8) c] w (LoadPost b w) := by
  unfold maxLen at h2
  have H4 := Lib.hid h4
  have e4 : b.length - 4 = p + 4 := by omega
  have HS := Lib.hid (load_sum b (by omega))
  have HBO := Lib.hid (load_body b (by omega))
  rw [e4] at HS HBO
  have hsl : (b.drop (p + 4)).length = 4 := by rw [List.length_drop]; omega
  have HSM := Lib.hid (fun (k : Nat) (hk : k < 4) => (show (b.drop (p + 4)).take (k + 1) = (b.drop (p + 4)).take k ++ [b.getD (p + 4 + k) 0] from by
    rw [List.take_succ_eq_append_getElem (by rw [hsl]; exact hk), List.getElem_drop, List.getD_eq_getElem?_getD, List.getElem?_eq_getElem (by omega)]; rfl))
  have HCE := Lib.hid (fun (k : Nat) (hk : k < 4) => (show w.cell? ⟨g, o + (p + 4) + k, none⟩ = some (.int .u8 ((b.getD (p + 4 + k) 0).toNat : Int)) from by
    rw [Nat.add_assoc]; refine h4 _ _ ?_
    rw [by8, List.getElem?_map, List.getD_eq_getElem?_getD, List.getElem?_eq_getElem (by omega)]; rfl))
  have HSA := Lib.hid (List.take_of_length_le (l := b.drop (p + 4)) (i := 4) (by omega))
  have HLB := Lib.hid (fun k => lsum_bd ((b.drop (p + 4)).take k))
  have hbr : BRow w (.slice (some ⟨g, o, none⟩) (p + 4) c) (b.take (p + 4)) := ⟨g, o, c, by rw [List.length_take, Nat.min_eq_left (by omega)], by rw [List.length_take]; omega, by unfold maxLen; omega, h3, fun j u hu => h4 j u (by
    simp only [by8, List.map_take, List.getElem?_take] at hu ⊢
    split at hu
    · exact hu
    · cases hu)⟩
  have hcv := conv_row w _ _ hbr
  have hbz : (⟨(b.take (p + 4)).toArray⟩ : ByteArray).size = p + 4 := by simp [ByteArray.size]; omega
  have HPO := Lib.hid (polyOf_any ⟨(b.take (p + 4)).toArray⟩ w (by rw [hbz]; unfold maxLen; omega))
  have e5 : (⟨(b.take (p + 4)).toArray⟩ : ByteArray).data.toList = b.take (p + 4) := by simp
  rw [e5] at HPO
  have HBR := Lib.hid hbr
  clear h4 hsl hbr hbz e5 e4
  go_enter Try.func17, Try.ntmps17
  go_wp2_with fail
  have e84 : p + 8 - 4 = p + 4 := by omega
  have e88 : p + 8 - (p + 4) = 4 := by omega
  simp only [e84, e88]
  clear e84 e88
  go_loop [6, 24] (fun s i => ∃ k : Nat, k ≤ 4 ∧ i = .int .i64 k ∧ s = .int .i64 ((lsum ((b.drop (p + 4)).take k) : Nat) : Int)) (fun _ i => 4 - (intOf i).toNat)
  case atStart => exact ⟨0, Nat.zero_le _, rfl, rfl⟩
  case round =>
    obtain ⟨k, hk, rfl, rfl⟩ := hrel
    by_cases hlt : k < 4
    · have x0 := HCE.out k hlt
      have hb0 := HLB.out k
      have hbk : 256 ^ ((b.drop (p + 4)).take k).length ≤ 16777216 := by
        have : ((b.drop (p + 4)).take k).length ≤ 3 := by rw [List.length_take]; omega
        exact Nat.pow_le_pow_right (by decide) this
      have hx : lsum ((b.drop (p + 4)).take k) < 16777216 := by omega
      have hy := (b.getD (p + 4 + k) 0).toNat_lt
      have HN : Hid (lsum ((b.drop (p + 4)).take (k + 1)) = lsum ((b.drop (p + 4)).take k) * 256 + (b.getD (p + 4 + k) 0).toNat) := Lib.hid (by rw [HSM.out k hlt, lsum_snoc])
      clear hb0 hbk
      generalize lsum ((b.drop (p + 4)).take k) = x at *
      generalize (b.getD (p + 4 + k) 0).toNat = y at *
      have hor := or64 x y (by omega) hy
      go_wp2_with fail
      go_round
      case rel => exact ⟨k + 1, by omega, by go_num, by rw [HN.out]; go_num⟩
      case measure => simp [intOf]; omega
    · obtain rfl : k = 4 := by omega
      have HSA2 : Hid (lsum ((b.drop (p + 4)).take 4) = lsum (b.drop (p + 4))) := Lib.hid (by rw [HSA.out])
      rw [HSA2.out]
      clear HSM HCE HLB hlt
      by_cases hq : hv (b.take (p + 4)) = (lsum (b.drop (p + 4)) : Int)
      · have q1 : (hv (b.take (p + 4)) == (lsum (b.drop (p + 4)) : Int)) = true := by rw [beq_iff_eq]; exact hq
        have q2 : (hv (b.take (p + 4)) != (lsum (b.drop (p + 4)) : Int)) = false := by rw [bne_eq_false_iff_eq]; exact hq
        have HQ := Lib.hid (HBO.out hq)
        clear hq
        go_wp2_with (go_at_call 46; refine HPO.out.mono ?_; rintro e w4 ⟨rfl, hb4⟩)
        have hbw4 : w.heap.size ≤ w4.heap.size := hb4.size
        have hbd : (b.take (p + 4)).drop 4 = (b.take (p + 4)).drop 4 := rfl
        have hRD : RDm (w4.alloc (.cells #[.slice (some ⟨g, o + 4, none⟩) p (c - 4), .bool false] 102)) w4.heap.size g ⟨(b.take (p + 4)).drop 4, false⟩ := by
          have hln : ((b.take (p + 4)).drop 4).length = p := by rw [List.length_drop, List.length_take]; omega
          refine ⟨o + 4, c - 4, ?_, by simp only [hln]; omega, by unfold maxLen; omega, by simp; omega, by omega, fun j u hu => ?_⟩
          · simp only [hln]; exact Blk.new w4 _ _
          · rw [World.cell?_alloc_lt _ _ _ (by simp only; omega), Nat.add_assoc]
            refine (hb4.cell (p := ⟨g, o + (4 + j), none⟩) h3).trans (H4.out _ _ ?_)
            simp only [by8, List.map_take, List.map_drop, List.getElem?_take, List.getElem?_drop] at hu ⊢
            split at hu
            · exact hu
            · cases hu
        clear hbd
        have hbA : Below w.heap.size w (w4.alloc (.cells #[.slice (some ⟨g, o + 4, none⟩) p (c - 4), .bool false] 102)) := hb4.alloc hbw4 _
        have hRl : w4.heap.size < (w4.alloc (.cells #[.slice (some ⟨g, o + 4, none⟩) p (c - 4), .bool false] 102)).heap.size := by simp
        have hgR : g ≠ w4.heap.size := by omega
        generalize hWA : w4.alloc (.cells #[.slice (some ⟨g, o + 4, none⟩) p (c - 4), .bool false] 102) = WA at *
        generalize hRR : w4.heap.size = R at *
        have HWA := Lib.hid hWA
        have HRR := Lib.hid hRR
        clear hWA hRR
        have hbr4 : BRow w4 (.slice (some ⟨g, o, none⟩) (p + 4) c) (b.take (p + 4)) := HBR.out.below hb4
        have hh4 : (b.take (p + 4)).take 4 = b.take 4 := by rw [List.take_take, Nat.min_eq_left (by omega)]
        have HH := Lib.hid (fun (W : World) (hW : Below w.heap.size w W) => (show (convert 27 9 (.slice (some ⟨g, o, none⟩) 4 c)).run Try.prog W = .ok (.string ⟨(b.take 4).toArray⟩) W from
          conv_row W _ _ ⟨g, o, c, by rw [List.length_take, Nat.min_eq_left (by omega)], by rw [List.length_take]; omega, by unfold maxLen; omega, Nat.lt_of_lt_of_le h3 hW.size, fun j u hu => (hW.cell (p := ⟨g, o + j, none⟩) h3).trans (H4.out j u (by
            simp only [by8, List.map_take, List.getElem?_take] at hu ⊢
            split at hu
            · exact hu
            · cases hu))⟩))
        have HT4 := Lib.hid hh4
        generalize hBD : b.take (p + 4) = body at *
        have HX : Hid (Calls Try.prog 47 #[.pointer (some ⟨R, 0, none⟩)] WA fun e w' => e = .returned (.string ⟨(txt0 body).1.toArray⟩) ∧ RDm w' R g (txt0 body).2 ∧ WA.grownBy w' (some R)) := Lib.hid (rtxt_any R g _ WA hRD)
        have HBD := Lib.hid hBD
        have HBA := Lib.hid hbA
        clear hBD hRD hbr4 hh4 hcv HPO HS HBO HBR hbA hb4 q1 q2 HSA HSA2
        refine HX.out.mono ?_
        rintro e w5 ⟨rfl, hr5, hg5⟩
        have hb5 := HBA.out.grown hg5 (by omega) (fun g' e => by injection e with e; omega)
        have HX2 : Hid (Calls Try.prog 48 #[.pointer (some ⟨R, 0, none⟩)] w5 fun e w' => e = .returned (.int .i64 ((num0 body).1 : Int)) ∧ RDm w' R g (num0 body).2 ∧ w5.grownBy w' (some R)) := Lib.hid (rnum_any R g _ w5 hr5)
        have HB5 := Lib.hid hb5
        have hs5 := hb5.size
        clear hr5 hg5 hb5 HX HBA HWA
        go_wp2_with fail
        refine HX2.out.mono ?_
        rintro e w6 ⟨rfl, hr6, hg6⟩
        have hb6 := HB5.out.grown hg6 (by omega) (fun g' e => by injection e with e; omega)
        have HND := Lib.hid (rnum_lt (txt0 body).2)
        have hstart : Rel3 body w R g (.slice none 0 0) (.int .i64 ((num0 body).1 : Int)) w6 := ⟨(num0 body).1, [], (num0 body).2, rfl, by
          have h1 : (num0 body).1 < 65536 := HND.out
          simp; omega, World.ownsRow_nil _ _ _ _, hr6, rfl, rfl, hb6⟩
        have hn0 : 0 ≤ ((num0 body).1 : Int) := by omega
        clear hr6 hg6 hb6 HB5 HX2 hn0
        go_wp2_with fail
        go_loopw [3, 10] (fun v n wr => Rel3 body w R g v n wr) (fun _ n _ => (intOf n).toNat)
        case atStart => exact hstart
        case round =>
          clear hstart HND
          obtain ⟨k, l, st, rfl, hlen, hown, hr, he1, he2, hb⟩ := hrel
          obtain ⟨o', c', hB, hq2, hq3, hq4, hq5, hq6⟩ := id hr
          unfold maxLen at hq3
          have y0 : wr.cell? ⟨R, 0, none⟩ = some (.slice (some ⟨g, o', none⟩) st.left.length c') := by rw [hB.cell]; rfl
          have y1 : wr.cell? ⟨R, 1, none⟩ = some (.bool st.bad) := by rw [hB.cell]; rfl
          have hsr := hb.size
          clear hq6
          by_cases hgo : k ≠ 0 ∧ st.bad = false
          · obtain ⟨hk0, hbad⟩ := hgo
            obtain ⟨m, rfl⟩ : ∃ m, k = m + 1 := ⟨k - 1, by omega⟩
            rw [hbad] at y1
            rw [rdeeds_go m st hbad] at he1 he2
            have HE1 := Lib.hid he1
            have HE2 := Lib.hid he2
            have HX : Hid (Calls Try.prog 49 #[.pointer (some ⟨R, 0, none⟩)] wr fun e w' => e = .returned (.agg #[.int .i64 ((rdeed st).1.k : Int), .int .i64 ((rdeed st).1.p : Int), .int .i64 ((rdeed st).1.c : Int), .string (rdeed st).1.put]) ∧ RDm w' R g (rdeed st).2 ∧ wr.grownBy w' (some R)) := Lib.hid (rdeed_any R g st wr hr)
            have HOW := Lib.hid hown
            have HB := Lib.hid hb
            have HBl := Lib.hid hB
            obtain ⟨A1, c1, rfl, hc1, hc2⟩ := own_slice hown
            clear he1 he2 hown hb hB hr
            go_wp2_with fail
            refine HX.out.mono ?_
            rintro e w7 ⟨rfl, hr7, hg7⟩
            have hnR : (Value.slice A1 l.length c1).ownBlock ≠ some R := own_blk_ne HOW.out HBl.out (by decide)
            have hown7 := HOW.out.kept hg7 (.inr hnR)
            have hb7 := HB.out.grown hg7 (by omega) (fun g' e => by injection e with e; omega)
            have hs7 := hb7.size
            have HC := Lib.hid (cellsOf_snoc (cl := rdc) l (rdeed st).1)
            have HR7 := Lib.hid hr7
            have HB7 := Lib.hid hb7
            have hlt7 := hown7.lt
            clear hr7 hg7 hnR HX HOW hb7
            generalize hdd : (rdeed st).1 = d at *
            have HDD := Lib.hid hdd
            clear hdd
            go_wp2_with (at_builtin; refine wpList_appN rfl (.tmp 59) (.tmp 62) _ rfl w.heap.size 36 _ 4 40 Try.underlying25 deed_info rfl (by decide) _ l.length (cellsOf rdc l) rfl hown7 (rdc d) rfl w7.heap.size rfl rfl rfl (rdc_one d) (by omega) (by omega) hs7 ?_)
            intro v8 w8 ho8 hB8 hg8
            have hb8 := hB8 _ (Nat.le_refl _) _ HB7.out
            have hr8 := HR7.out.grown hg8 (fun e => by
              obtain ⟨o9, c9, b9, _⟩ := HR7.out
              exact own_blk_ne hown7 b9 (by decide) e.symm) (fun e => by have := (hlt7 g e.symm).1; omega)
            rw [← HC.out] at ho8
            have ho8' : w8.ownsRow w.heap.size 36 4 v8 (l ++ [d]).length (cellsOf rdc (l ++ [d])) := by rw [List.length_append]; exact ho8
            have HO8 := Lib.hid ho8'
            have HB8 := Lib.hid hb8
            have HR8 := Lib.hid hr8
            clear ho8 ho8' hB8 hg8 hb8 hr8 hown7 hlt7 HR7 HB7 HC HB HBl y0 y1
            go_wp2_with fail
            go_roundw
            case rel => exact ⟨m, l ++ [d], (rdeed st).2, by go_num, by simp; omega, HO8.out, HR8.out, by rw [← HE1.out]; simp, HE2.out, HB8.out⟩
            case measure => simp [intOf]
          · have hgo' : k = 0 ∨ st.bad = true := by
              by_cases hk0 : k = 0
              · exact .inl hk0
              · refine .inr ?_
                cases hbb : st.bad with
                | true => rfl
                | false => exact absurd ⟨hk0, hbb⟩ hgo
            rw [rdeeds_stop k st hgo'] at he1 he2
            rw [List.append_nil] at he1
            simp only at he2
            have hbd : ∀ d ∈ l, rdB d := by rw [he1]; exact rdeeds_bd _ _
            obtain ⟨A1, c1, rfl, hc1, hc2⟩ := own_slice hown
            have hrd := (Reads.of_own hown)
            have htl := rtxt_lt ⟨body.drop 4, false⟩
            have htl' : (⟨(txt0 body).1.toArray⟩ : ByteArray).size < 65536 := by simp only [ByteArray.size, List.size_toArray]; exact htl
            have HF := Lib.hid (fault_any ⟨(txt0 body).1.toArray⟩ A1 c1 l wr (by omega) hrd (by omega) hc1 hc2 hbd)
            have hcv := HH.out wr hb
            have HBR := Lib.hid hb
            have HOW := Lib.hid hown
            have HGB : Hid (st.bad = false → st.left = [] → b.take 4 = headB → OKF ⟨(txt0 body).1.toArray⟩ l → load b = ⟨⟨(txt0 body).1.toArray⟩, l, 0⟩) := Lib.hid (fun q1 q2 q3 q4 => by
              rw [HQ.out]; unfold loadB
              rw [if_pos ⟨by rw [← he2]; exact q1, by rw [← he2]; exact q2, by rw [HT4.out]; exact q3, by rw [← he1]; exact q4⟩, ← he1])
            have HBB : Hid (¬ (st.bad = false ∧ st.left = [] ∧ b.take 4 = headB ∧ OKF ⟨(txt0 body).1.toArray⟩ l) → load b = none_ 4) := Lib.hid (fun q => by
              rw [HQ.out]; unfold loadB
              rw [if_neg]
              rintro ⟨q1, q2, q3, q4⟩
              exact q ⟨by rw [he2]; exact q1, by rw [he2]; exact q2, by rw [← HT4.out]; exact q3, by rw [he1]; exact q4⟩)
            have hk65 : k ≤ 65535 := by omega
            have hgo2 : decide ((0 : Int) < (k : Int)) = true → st.bad = true := by
              intro h
              have h' : (0 : Int) < (k : Int) := by simpa using h
              rcases hgo' with h0 | h0
              · omega
              · exact h0
            have HG2 := Lib.hid hgo2
            clear he1 he2 hbd hrd htl htl' hb hown hr hgo hgo' hgo2 hlen HQ hB
            cases hbad : st.bad with
            | true =>
              have HL := Lib.hid (HBB.out (fun q => by rw [hbad] at q; exact absurd q.1 (by decide)))
              rw [hbad] at y1
              clear HGB HBB HF hcv hbad
              go_wp2_with fail
              all_goals
                go_ret3
                exact ⟨_, by rw [HL.out]; rfl, by rw [HL.out]; exact World.ownsRow_nil _ _ _ _, HBR.out⟩
            | false =>
              have hk0 : k = 0 := by
                rcases Nat.eq_zero_or_pos k with h | h
                · exact h
                · have := HG2.out (by rw [decide_eq_true_eq]; omega)
                  rw [hbad] at this; cases this
              subst hk0
              rw [hbad] at y1
              have y1' := y1
              by_cases hl0 : st.left = []
              · have hl1 : st.left.length = 0 := by rw [hl0]; rfl
                rw [hl1] at y0
                by_cases hhd : b.take 4 = headB
                · have hst : (⟨(b.take 4).toArray⟩ : ByteArray) = ⟨#[70, 85, 83, 49]⟩ := by rw [hhd]; rfl
                  rw [hst] at hcv
                  clear hst
                  go_wp2_with fail
                  refine HF.out.mono ?_
                  rintro e w8 ⟨f, rfl, hf7, hf0, hb8⟩
                  have hbw8 := bstep HBR.out hb8
                  have HOW8 := Lib.hid (own_below HOW.out hb8)
                  by_cases hf : f = 0
                  · have HL := Lib.hid (HGB.out hbad hl0 hhd (hf0.1 hf))
                    subst hf
                    have hz0 : ((0 : Nat) : Int) = 0 := rfl
                    rw [hz0]
                    clear hz0 hf7 hf0 HGB HBB hb8 HOW hl0 hhd
                    go_wp2_with fail
                    go_ret3
                    exact ⟨_, by rw [HL.out]; rfl, by rw [HL.out]; exact HOW8.out, hbw8⟩
                  · have HL := Lib.hid (HBB.out (fun q => hf (hf0.2 q.2.2.2)))
                    have hfi : ((f : Int) == 0) = false := by rw [beq_eq_false_iff_ne]; omega
                    have hfn : ((f : Int) != 0) = true := by rw [bne_iff_ne]; omega
                    clear hf7 hf0 HGB HBB hb8 HOW hl0 hhd
                    go_wp2_with fail
                    go_ret3
                    exact ⟨_, by rw [HL.out]; rfl, by rw [HL.out]; exact World.ownsRow_nil _ _ _ _, hbw8⟩
                · have HL := Lib.hid (HBB.out (fun q => hhd q.2.2.1))
                  have hst : ¬ (⟨(b.take 4).toArray⟩ : ByteArray) = ⟨#[70, 85, 83, 49]⟩ := fun e => hhd (by have := congrArg (fun x : ByteArray => x.data.toList) e; simpa [headB] using this)
                  have hs1 : ¬ (⟨(b.take 4).toArray⟩ : ByteArray).toList = [70, 85, 83, 49] := fun e => hst (by rw [ByteArray.toList_eq] at e; exact bytes_ext e)
                  generalize (⟨(b.take 4).toArray⟩ : ByteArray) = hs at *
                  clear hst
                  go_wp2_with fail
                  go_ret3
                  exact ⟨_, by rw [HL.out]; rfl, by rw [HL.out]; exact World.ownsRow_nil _ _ _ _, HBR.out⟩
              · have hl1 : 0 < st.left.length := by
                  rcases Nat.eq_zero_or_pos st.left.length with h | h
                  · exact absurd (List.eq_nil_of_length_eq_zero h) hl0
                  · exact h
                have HL := Lib.hid (HBB.out (fun q => hl0 q.2.1))
                clear hl0
                go_wp2_with fail
                all_goals
                  go_ret3
                  exact ⟨_, by rw [HL.out]; rfl, by rw [HL.out]; exact World.ownsRow_nil _ _ _ _, HBR.out⟩
      · have q1 : (hv (b.take (p + 4)) == (lsum (b.drop (p + 4)) : Int)) = false := by rw [beq_eq_false_iff_ne]; exact hq
        have q2 : (hv (b.take (p + 4)) != (lsum (b.drop (p + 4)) : Int)) = true := by rw [bne_iff_ne]; exact hq
        have HQ := Lib.hid (HS.out hq)
        clear hq
        go_wp2_with (go_at_call 46; refine HPO.out.mono ?_; rintro e w4 ⟨rfl, hb4⟩)
        go_ret3
        exact ⟨_, by rw [HQ.out]; rfl, by rw [HQ.out]; exact World.ownsRow_nil _ _ _ _, hb4⟩
theorem Load_any (v : Value) (b : List UInt8) (w : World) (h : BRow w v b) (hl : b.length ≤ 140737488351232) :
    Calls Try.prog 17 #[v] w (LoadPost b w) := by
  obtain ⟨g, o, c, rfl, h1, h2, h3, h4⟩ := h
  by_cases h12 : b.length < 12
  · unfold maxLen at h2
    unfold LoadPost
    rw [load_short b h12]
    clear h4
    go_enter Try.func17, Try.ntmps17
    go_wp2_with fail
    go_ret3
    exact ⟨_, rfl, World.ownsRow_nil _ _ _ _, Below.refl _ _⟩
  · obtain ⟨p, hp⟩ : ∃ p, b.length = p + 8 := ⟨b.length - 8, by omega⟩
    rw [hp] at h1 ⊢
    exact Load_long g o c p b w hp (by omega) h1 h2 h3 h4 (by omega)
end Go.Proofs.Ytegobmlbldabbaa
