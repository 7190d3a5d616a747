/-
  The walk of the law LogBack: whatever its input, it returns true and changes nothing that was there.
-/
import Derived.Test.YtegobmlbldabbaaLogFixedW
import Derived.Test.YtegobmlbldabbaaSavable
namespace Go.Proofs.Ytegobmlbldabbaa
open Go.RowKit
set_option linter.unusedVariables false

theorem xor8 (x y : Nat) (hx : x < 256) (hy : y < 256) : bits .xor .u8 (x : Int) (y : Int) = (((UInt8.ofNat x ^^^ UInt8.ofNat y).toNat : Nat) : Int) := by
  show IntKind.u8.wrap ((BitVec.ofInt 8 (x : Int) ^^^ BitVec.ofInt 8 (y : Int)).toNat : Int) = _
  rw [BitVec.ofInt_natCast, BitVec.ofInt_natCast]
  have h : (UInt8.ofNat x ^^^ UInt8.ofNat y).toNat = (BitVec.ofNat 8 x ^^^ BitVec.ofNat 8 y).toNat := rfl
  rw [h]
  have := (BitVec.ofNat 8 x ^^^ BitVec.ofNat 8 y).isLt
  generalize (BitVec.ofNat 8 x ^^^ BitVec.ofNat 8 y).toNat = z at *
  exact IntWalk.u8_in _ (by omega)
theorem xor_ne (a b : UInt8) (h : b ≠ 0) : a ^^^ b ≠ a := by
  intro e
  apply h
  have h2 : a ^^^ (a ^^^ b) = a ^^^ a := by rw [e]
  rw [← UInt8.xor_assoc, UInt8.xor_self, UInt8.zero_xor] at h2
  exact h2
theorem by8_set (l : List UInt8) (k : Nat) (x : UInt8) : by8 (l.set k x) = (by8 l).set k (.int .u8 (x.toNat : Int)) := by
  simp [by8, List.map_set]
theorem Load_cut (g cap n k : Nat) (b : List UInt8) (base : Nat) (w : World) (h : w.ownsRow base 5 1 (.slice (some ⟨g, 0, none⟩) n cap) n (by8 b)) (hn : b.length = n) (hl : n ≤ 140737488351232) (hk : k ≤ n) :
    Calls Try.prog 17 #[.slice (some ⟨g, 0, none⟩) k cap] w (LoadPost (b.take k) w) := by
  have hlt : (b.take k).length = k := by rw [List.length_take]; omega
  by_cases h12 : k < 12
  · have := Load_short (some ⟨g, 0, none⟩) cap (b.take k) w (by omega)
    rwa [hlt] at this
  · obtain ⟨g', cap', hv, hg, hgl⟩ := h.form (by omega)
    injection hv with e1 _ e3
    injection e1 with e1
    injection e1 with e1
    subst e1
    obtain ⟨A, c, hv, h1, h2⟩ := own_slice h
    injection hv with _ _ e4
    subst e4
    refine Load_any _ (b.take k) w ⟨g, 0, cap, by rw [hlt], by omega, h2, hgl, fun j u hu => ?_⟩ (by omega)
    rw [← add_plain]
    refine h.cells (g := g) rfl j u ?_
    simp only [by8, List.map_take, List.getElem?_take] at hu ⊢
    split at hu
    · exact hu
    · cases hu
set_option maxRecDepth 100000 in
set_option maxHeartbeats 8000000 in
theorem logBack_walk (w : World) (v0 : Value) (xs : List Int) (h0 : Row .i64 w v0 xs) (v1 : Value) (ts : List Trn) (h1 : Turns w v1 ts) (at_ : Int) (hat : -9223372036854775808 ≤ at_ ∧ at_ ≤ 9223372036854775807) (by_ : Int) (hby : 0 ≤ by_ ∧ by_ ≤ 255) :
    Calls Try.prog 3 #[v0, v1, .int .i64 at_, .int .u8 by_] w fun e w' => e = .returned (.bool true) ∧ Below w.heap.size w w' := by
  have HT := Lib.hid (textOf_any v0 xs 50 w h0 (by omega) (by omega))
  have H1 := Lib.hid h1
  clear h0 h1
  go_enter Try.func3, Try.ntmps3
  go_wp2_with fail
  refine HT.out.mono ?_
  rintro e w' ⟨s, rfl, hs, rfl⟩
  have hs50 := text_len _ _ _ hs
  have hs51 : s.size ≤ 50 := hs50
  clear hs hs50 HT
  have HS := Lib.hid (savable_any v1 ts 20 s.size w H1.out (by omega) (by omega))
  go_wp2_with fail
  refine HS.out.mono ?_
  rintro e w1 ⟨v2, ds, rfl, ho1, hl1, hd1, hb1⟩
  have HOK := Lib.hid (okf_rdOf s ds s.size (by omega) (by omega) (by omega) hd1)
  rw [← cells_rdOf] at ho1
  have hlm : (ds.map rdOf).length = ds.length := List.length_map _
  rw [← hlm] at ho1 hl1
  generalize ds.map rdOf = l at *
  obtain ⟨A1, c1, rfl, hc1, hc2⟩ := own_slice ho1
  have HO1 := Lib.hid ho1
  have HB1 := Lib.hid hb1
  have HR1 := Lib.hid (Reads.of_own ho1)
  clear hd1 HS hb1 ho1 hlm
  go_wp2_with (at_builtin; refine wpList_copy rfl (.tmp 33) _ rfl 36 _ 4 40 Try.underlying25 deed_info rfl (by decide) _ l.length _ (cellsOf rdc l) rfl HR1.out (cellsOf_oneCell rdc_one _) (by omega) (by omega) ?_)
  intro v2 w2 ho2 hb2
  obtain ⟨A2, c2, rfl, hc3, hc4⟩ := own_slice ho2
  have HSV := Lib.hid (save_any s A2 c2 l w2 (Reads.of_own ho2) hc3 hc4 HOK.out)
  have HB2 := Lib.hid (bstep HB1.out hb2)
  have HO2 := Lib.hid (own_below HO1.out hb2)
  clear ho2 hb2 HB1 HO1 HR1
  go_wp2_with fail
  refine HSV.out.mono ?_
  rintro e w3 ⟨v3, rfl, ho3, hb3⟩
  have HB3 := Lib.hid (bstep HB2.out hb3)
  have HO3 := Lib.hid (own_below HO2.out hb3)
  have HE12 := Lib.hid (enc_len12 s l)
  have hel : (enc s l).length ≤ 60004 := by
    have := enc_len s l HOK.out
    unfold enc; rw [List.length_append]; simp [sum4]; omega
  have he12 := HE12.out
  generalize hEN : enc s l = b at *
  generalize hBN : b.length = n at *
  have HEN := Lib.hid hEN
  have HBN := Lib.hid hBN
  obtain ⟨g3, c3, rfl, hg3, hgl3⟩ := ho3.form (by omega)
  have hc3n : n ≤ c3 ∧ c3 ≤ maxLen := by
    obtain ⟨A, c, hv, h1, h2⟩ := own_slice ho3
    injection hv with _ _ e4
    subst e4
    exact ⟨h1, h2⟩
  have HR3 := Lib.hid (Reads.of_own ho3)
  have HOB := Lib.hid ho3
  clear HSV hb3 HB2 HO2 hEN hBN ho3
  go_wp2_with (at_builtin; refine wpList_copy rfl (.tmp 39) _ rfl 5 _ 1 1 Try.underlying27 u8_info rfl (by decide) _ n _ (by8 b) rfl HR3.out (by8_one b) (by omega) (by omega) ?_)
  intro v4 w4 ho4 hb4
  have HX := Lib.hid (Load_own v4 b w3.heap.size w4 (by rw [HBN.out]; exact ho4) (by rw [HBN.out]; omega))
  have HLE := Lib.hid (load_enc s l HOK.out)
  rw [HEN.out] at HLE
  have HB4 := Lib.hid (bstep HB3.out hb4)
  have HO4 := Lib.hid (own_below HO3.out hb4)
  have HOB4 := Lib.hid (own_below HOB.out hb4)
  clear ho4 hb4 HB3 HO3 HR3 HOB
  go_wp2_with fail
  refine HX.out.mono ?_
  rintro e w5 ⟨v5, rfl, ho5, hb5⟩
  rw [HLE.out] at ho5 ⊢
  simp only at ho5
  have HB5 := Lib.hid (bstep HB4.out hb5)
  have HO5 := Lib.hid (own_below HO4.out hb5)
  have HOB5 := Lib.hid (own_below HOB4.out hb5)
  obtain ⟨A5, c5, rfl, hc5, hc6⟩ := own_slice ho5
  have HR5 := Lib.hid (Reads.of_own ho5)
  have HR1 := Lib.hid (Reads.of_own HO5.out)
  clear ho5 hb5 HB4 HO4 HOB4 HX
  go_wp2_with fail
  go_loopw [16] (fun i wr => ∃ k : Nat, k ≤ l.length ∧ i = .int .i64 k ∧ Below w5.heap.size w5 wr) (fun i _ => l.length - (intOf i).toNat)
  case atStart => exact ⟨0, Nat.zero_le _, rfl, Below.refl _ _⟩
  case round =>
    obtain ⟨k, hk, rfl, hbr⟩ := hrel
    by_cases hlt : k < l.length
    · obtain ⟨b1, o1, rfl, hbb1, x0, x1, x2, x3⟩ := rd_at (HR5.out.below hbr) hlt (by omega)
      obtain ⟨b2, o2, rfl, hbb2, y0, y1, y2, y3⟩ := rd_at (HR1.out.below hbr) hlt (by omega)
      have HBR := Lib.hid hbr
      clear hbr
      generalize l[k] = d at *
      obtain ⟨dk, dp, dc, dput⟩ := d
      simp only at x0 x1 x2 x3 y0 y1 y2 y3
      go_wp2_with fail
      go_quiet (fail)
      go_wp2_with fail
      go_roundw
      case rel => exact ⟨k + 1, by omega, by go_num, below_drewN HBR.out _⟩
      case measure => simp [intOf]; omega
    · have HB6 := Lib.hid (bstep HB5.out hbr)
      have HOB6 := Lib.hid (own_below HOB5.out hbr)
      clear hbr HB5 HOB5 HO5 HR5 HR1 HLE
      obtain ⟨q, hqe⟩ : ∃ q : Nat, at_ % (n : Int) = (q : Int) := ⟨(at_ % (n : Int)).toNat, by have := Int.emod_nonneg at_ (show (n : Int) ≠ 0 by omega); omega⟩
      have hq : q < n := by have := Int.emod_lt_of_pos at_ (show (0 : Int) < (n : Int) by omega); omega
      have HP : Hid (∀ W : World, Calls Try.prog 18 #[.int .i64 at_, .int .i64 (n : Int)] W fun e w' => e = .returned (.int .i64 (q : Int)) ∧ W = w') := by
        refine Lib.hid fun W => ?_
        have := picked_any at_ n W hat (by omega) (by omega); rw [hqe] at this; exact this
      clear hqe hat
      go_wp2_with fail
      refine (HP.out _).mono ?_
      rintro e w' ⟨rfl, rfl⟩
      have HX := Lib.hid (Load_cut g3 c3 n q b _ _ HOB6.out HBN.out (by omega) (by omega))
      have HLC := Lib.hid (load_cut s l HOK.out q (by rw [HEN.out, HBN.out]; exact hq))
      rw [HEN.out] at HLC
      have hqc : (q : Int) ≤ (c3 : Int) := by omega
      clear HP
      go_wp2_with fail
      refine HX.out.mono ?_
      rintro e w7 ⟨v7, rfl, ho7, hb7⟩
      have HB7 := Lib.hid (bstep HB6.out hb7)
      have HOB7 := Lib.hid (own_below HOB6.out hb7)
      have hc0 : (((load (b.take q)).c : Int) == 0) = false := by rw [beq_eq_false_iff_ne]; have := HLC.out; omega
      clear ho7 hb7 HX HB6 HOB6 HLC
      generalize load (b.take q) = L at *
      by_cases hb0 : by_ = 0
      · subst hb0
        go_wp2_with fail
        go_ret
        exact ⟨rfl, HB7.out⟩
      · have hbz : (by_ == 0) = false := by rw [beq_eq_false_iff_ne]; exact hb0
        have HR7 := Lib.hid (Reads.of_own HOB7.out)
        go_wp2_with (at_builtin; refine wpList_copy rfl (.tmp 99) _ rfl 5 _ 1 1 Try.underlying27 u8_info rfl (by decide) _ n _ (by8 b) rfl HR7.out (by8_one b) (by omega) (by omega) ?_)
        intro v8 w8 ho8 hb8
        have HB8 := Lib.hid (bstep HB7.out hb8)
        obtain ⟨g8, c8, rfl, hg8, hgl8⟩ := ho8.form (by omega)
        have hc8 : n ≤ c8 ∧ c8 ≤ maxLen := by
          obtain ⟨A, c, hv, h1, h2⟩ := own_slice ho8
          injection hv with _ _ e4
          subst e4
          exact ⟨h1, h2⟩
        have hbq : q < b.length := by rw [HBN.out]; exact hq
        obtain ⟨y, hy⟩ : ∃ y : Nat, by_ = (y : Int) := ⟨by_.toNat, by omega⟩
        subst hy
        have x0 : w8.cell? ⟨g8, q, none⟩ = some (.int .u8 (b[q].toNat : Int)) := by
          have h9 := ho8.cells (g := g8) rfl q (.int .u8 (b[q].toNat : Int)) (by rw [by8, List.getElem?_map, List.getElem?_eq_getElem hbq]; rfl)
          rwa [add_head] at h9
        have f0 : w8.frozen? ⟨g8, q, none⟩ = false := ho8.frozenAt _
        have hxor := xor8 b[q].toNat y b[q].toNat_lt (by omega)
        have hofn : UInt8.ofNat b[q].toNat = b[q] := u8_ext (by simp)
        rw [hofn] at hxor
        have hne : b[q] ^^^ UInt8.ofNat y ≠ b[q] := xor_ne _ _ (fun e => hb0 (by have := congrArg UInt8.toNat e; simp only [UInt8.toNat_ofNat'] at this; have h3 : (0 : UInt8).toNat = 0 := rfl; omega))
        have hst := (ho8.stored q (.int .u8 ((b[q] ^^^ UInt8.ofNat y).toNat : Int))).1
        rw [← by8_set] at hst
        have HLX : Hid (load (b.set q (b[q] ^^^ UInt8.ofNat y)) = none_ 6) := Lib.hid (by
          have h9 := load_changed s l q (b[q] ^^^ UInt8.ofNat y) (by rw [HEN.out, HBN.out]; exact hq) (by
            intro e
            apply hne
            rw [e]
            congr 1 <;> exact HEN.out)
          rw [HEN.out] at h9
          exact h9)
        have HX := Lib.hid (Load_own _ (b.set q (b[q] ^^^ UInt8.ofNat y)) _ _ (by rw [List.length_set, HBN.out]; exact hst) (by rw [List.length_set, HBN.out]; omega))
        have HBS := Lib.hid (HB8.out.setCell (p := ⟨g8, q, none⟩) (show w.heap.size ≤ g8 from by have := HB7.out.size; omega) (.int .u8 ((b[q] ^^^ UInt8.ofNat y).toNat : Int)))
        have hzl : ((b[q] ^^^ UInt8.ofNat y).toNat : Int) < 256 := by have := (b[q] ^^^ UInt8.ofNat y).toNat_lt; omega
        generalize (b.set q (b[q] ^^^ UInt8.ofNat y)) = bs at *
        generalize (b[q] ^^^ UInt8.ofNat y).toNat = z at *
        generalize b[q].toNat = xq at *
        clear hst ho8 hb8 HB7 HOB7 HR7 HB8 hne hofn
        go_wp2_with fail
        refine HX.out.mono ?_
        rintro e w9 ⟨v9, rfl, ho9, hb9⟩
        rw [HLX.out] at ho9 ⊢
        have HB9 := Lib.hid (bstep HBS.out hb9)
        obtain ⟨A9, c9, rfl, hc9, hc10⟩ := own_slice ho9
        clear ho9 hb9
        unfold none_
        go_wp2_with fail
        go_ret
        exact ⟨rfl, HB9.out⟩
end Go.Proofs.Ytegobmlbldabbaa
