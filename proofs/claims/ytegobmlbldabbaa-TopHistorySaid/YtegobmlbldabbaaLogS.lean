/-
  The walk of log.Save: the bytes that it makes.
-/
import Derived.Test.YtegobmlbldabbaaLogF
import Derived.Test.YtegobmlbldabbaaPoly
import Derived.Test.YtegobmlbldabbaaOrd
import Derived.Test.YtegobmlbldabbaaOrdC
import Derived.Lib.SlBytesConst
namespace Go.Proofs.Ytegobmlbldabbaa
open Go.RowKit
set_option linter.unusedVariables false

def dby (d : Rd) : List UInt8 := UInt8.ofNat d.k :: (if d.k = 1 then num d.p ++ (num d.c ++ (num d.put.size ++ d.put.data.toList)) else [])
def headB : List UInt8 := [70, 85, 83, 49]
theorem by8_head : by8 headB = [.int .u8 70, .int .u8 85, .int .u8 83, .int .u8 49] := rfl
def encB (s : ByteArray) (l : List Rd) : List UInt8 := (headB ++ (num s.size ++ s.data.toList)) ++ num l.length ++ l.flatMap dby
def sum4 (n : Nat) : List UInt8 := [UInt8.ofNat (n / 16777216), UInt8.ofNat (n / 65536), UInt8.ofNat (n / 256), UInt8.ofNat n]
def enc (s : ByteArray) (l : List Rd) : List UInt8 := encB s l ++ sum4 (hv (encB s l)).toNat
theorem num_len (n : Nat) : (num n).length = 2 := rfl
theorem dby_len (d : Rd) (h : d.put.size ≤ 600) : (dby d).length ≤ 607 := by
  unfold dby
  split
  · simp [num_len]; omega
  · simp
theorem flat_len (l : List Rd) (h : ∀ d ∈ l, d.put.size ≤ 600) : (l.flatMap dby).length ≤ 607 * l.length := by
  induction l with
  | nil => simp
  | cons d l ih =>
    have h1 := dby_len d (h d (by simp))
    have h2 := ih (fun x hx => h x (by simp [hx]))
    rw [List.flatMap_cons, List.length_append, List.length_cons]; omega
theorem enc_len (s : ByteArray) (l : List Rd) (h : OKF s l) : (encB s l).length ≤ 60000 := by
  have h1 := flat_len l h.2.2.1
  have h2 := h.2.1
  have h3 := h.1
  simp only [encB, List.length_append, num_len, headB, List.length_cons, List.length_nil]
  have : s.data.toList.length = s.size := by simp
  omega
theorem by8_sum4 (n : Nat) (h : n < 2147483647) : by8 (sum4 n) = [.int .u8 ((n : Int) / 16777216), .int .u8 ((n : Int) / 65536 % 256), .int .u8 ((n : Int) / 256 % 256), .int .u8 ((n : Int) % 256)] := by
  have h1 : ((UInt8.ofNat (n / 16777216)).toNat : Int) = (n : Int) / 16777216 := by rw [u8_of]; omega
  have h2 : ((UInt8.ofNat (n / 65536)).toNat : Int) = (n : Int) / 65536 % 256 := by rw [u8_of]; omega
  have h3 : ((UInt8.ofNat (n / 256)).toNat : Int) = (n : Int) / 256 % 256 := by rw [u8_of]; omega
  have h4 := u8_of n
  simp only [by8, sum4, List.map_cons, List.map_nil, h1, h2, h3, h4]
def SavePost (s : ByteArray) (l : List Rd) (w : World) (e : Ending) (w' : World) : Prop :=
  ∃ v, e = .returned (.tuple #[v, .int .i64 0]) ∧ w'.ownsRow w.heap.size 5 1 v (enc s l).length (by8 (enc s l)) ∧ Below w.heap.size w w'
set_option maxRecDepth 100000 in
set_option maxHeartbeats 4000000 in
theorem save_any (s : ByteArray) (A : Option Addr) (cap : Nat) (l : List Rd) (w : World) (hr : Reads w w.heap.size 4 A l.length (cellsOf rdc l)) (hc1 : l.length ≤ cap) (hc2 : cap ≤ maxLen) (hok : OKF s l) :
    Calls Try.prog 16 #[.string s, .slice A l.length cap] w (SavePost s l w) := by
  have hl8 := hok.2.1
  have hs6 := hok.1
  have HF := Lib.hid (fault_any s A cap l w (by omega) hr (by omega) hc1 hc2 (fun d hd => by
    have h1 := hok.2.2.1 d hd
    have h2 := hok.2.2.2 d hd
    exact ⟨by have := h2.2.1; omega, by have := h2.2.2.2.1; omega, by have := h2.2.2.2.2; omega, by omega⟩))
  have HR := Lib.hid hr
  have HOK := Lib.hid hok
  unfold maxLen at hc2
  clear hr hok
  have kc := fun (w : World) (C : Array Value) (n c : Nat) => Lib.run_convert_bytes_const (P := Try.prog) w 27 5 C n c Try.underlying27 Try.underlying5
  go_enter Try.func16, Try.ntmps16
  go_wp2_with fail
  refine HF.out.mono ?_
  rintro e w1 ⟨c, rfl, hc7, hc0, hb1⟩
  obtain rfl : c = 0 := hc0.2 HOK.out
  have hz0 : ((0 : Nat) : Int) = 0 := rfl
  rw [hz0]
  clear hc0 hc7 hz0
  go_wp2_with fail
  have hW : (w1.alloc (.cells #[.int .u8 70, .int .u8 85, .int .u8 83, .int .u8 49] 5 (4, 5))).heap[w1.heap.size]? = some (.cells #[.int .u8 70, .int .u8 85, .int .u8 83, .int .u8 49] 5 (4, 5)) := heap_alloc_new w1 _
  have hbW : Below w.heap.size w (w1.alloc (.cells #[.int .u8 70, .int .u8 85, .int .u8 83, .int .u8 49] 5 (4, 5))) := hb1.alloc hb1.size _
  have hsW : w1.heap.size < (w1.alloc (.cells #[.int .u8 70, .int .u8 85, .int .u8 83, .int .u8 49] 5 (4, 5))).heap.size := by simp
  clear hb1 kc
  generalize w1.alloc (.cells #[.int .u8 70, .int .u8 85, .int .u8 83, .int .u8 49] 5 (4, 5)) = W at *
  refine (text_full w1.heap.size headB s W hsW (fun j u hu => by rw [cell_of_row W _ j _ _ _ hW]; rw [by8_head] at hu; rw [← hu]; simp) (by omega) (by decide)).mono ?_
  rintro e w2 ⟨v2, rfl, ho2, hb2, hk2⟩
  have hbw2 := hb2 w.heap.size hbW.size _ hbW
  have ho2' := own_mono ho2 hbW.size
  have hln : (headB ++ (num s.size ++ s.data.toList)).length = 6 + s.size := by
    have : s.data.toList.length = s.size := by simp
    simp only [List.length_append, num_len, headB, List.length_cons, List.length_nil]; omega
  have HNU := Lib.hid (number_any v2 (headB ++ (num s.size ++ s.data.toList)) l.length w.heap.size w2 ho2' (by omega) (by omega) hbw2.size)
  have HB2 := Lib.hid hbw2
  clear ho2 ho2' hb2 hk2 hbw2 hW hbW hsW
  go_wp2_with fail
  refine HNU.out.mono ?_
  rintro e w3 ⟨v3, rfl, ho3, hb3, hk3⟩
  have hbw3 := hb3 w.heap.size (Nat.le_refl _) _ HB2.out
  have HLN := Lib.hid hln
  clear hb3 hk3 HB2 HNU hln
  go_wp2_with fail
  go_loopw [7, 26] (fun v i wr => ∃ k : Nat, k ≤ l.length ∧ i = .int .i64 k ∧ wr.ownsRow w.heap.size 5 1 v (((headB ++ (num s.size ++ s.data.toList)) ++ num l.length) ++ (l.take k).flatMap dby).length (by8 (((headB ++ (num s.size ++ s.data.toList)) ++ num l.length) ++ (l.take k).flatMap dby)) ∧ Below w.heap.size w wr) (fun _ i _ => l.length - (intOf i).toNat)
  case atStart => exact ⟨0, Nat.zero_le _, rfl, by simpa using ho3, hbw3⟩
  case round =>
    clear ho3 hbw3
    obtain ⟨k, hk, rfl, hown, hb⟩ := hrel
    by_cases hlt : k < l.length
    · obtain ⟨b, o, rfl, hbb, x0, x1, x2, x3⟩ := rd_at (HR.out.below hb) hlt (by omega)
      have hbw := Nat.lt_of_lt_of_le hbb hb.size
      have hput := HOK.out.2.2.1 l[k] (List.getElem_mem hlt)
      have hokd := HOK.out.2.2.2 l[k] (List.getElem_mem hlt)
      have hll : (((headB ++ (num s.size ++ s.data.toList)) ++ num l.length) ++ (l.take k).flatMap dby).length ≤ 60000 := by
        have h1 := flat_len (l.take k) (fun d hd => HOK.out.2.2.1 d (List.mem_of_mem_take hd))
        rw [List.length_append, List.length_append, HLN.out, num_len]
        rw [List.length_take] at h1
        omega
      have HTK : Hid ((l.take (k + 1)).flatMap dby = (l.take k).flatMap dby ++ dby l[k]) := by
        refine Lib.hid ?_
        rw [List.take_succ_eq_append_getElem hlt, List.flatMap_append, List.flatMap_cons, List.flatMap_nil, List.append_nil]
      generalize l[k] = d at *
      obtain ⟨dk, dp, dc, dput⟩ := d
      simp only at x0 x1 x2 x3 hput
      obtain ⟨q1, q2, q3, q4, q5⟩ := hokd
      simp only at q1 q2 q3 q4 q5
      generalize hBS : ((headB ++ (num s.size ++ s.data.toList)) ++ num l.length) ++ (l.take k).flatMap dby = bs at *
      have HBS := Lib.hid hBS
      clear hBS
      obtain ⟨A5, c5, rfl, hc5, hc6⟩ := own_slice hown
      have hD := Blk.new wr 36 #[.int .i64 (dk : Int), .int .i64 (dp : Int), .int .i64 (dc : Int), .string dput]
      have hal := hb.alloc hb.size (.cells #[.int .i64 (dk : Int), .int .i64 (dp : Int), .int .i64 (dc : Int), .string dput] 36)
      have hown1 := hown.alloc (.cells #[.int .i64 (dk : Int), .int .i64 (dp : Int), .int .i64 (dc : Int), .string dput] 36)
      have hkb : by8 [UInt8.ofNat dk] = [.int .u8 (dk : Int)] := by
        have h1 := u8_of dk
        have h2 : (dk : Int) % 256 = (dk : Int) := by omega
        simp only [by8, List.map_cons, List.map_nil, h1, h2]
      have HKB := Lib.hid hkb
      clear hown hb hkb
      go_wp2_with (at_builtin; refine wpList_appN rfl (.tmp 30) (.tmp 34) _ rfl w.heap.size 5 _ 1 1 Try.underlying27 u8_info rfl (by decide) _ _ _ rfl hown1 [.int .u8 (dk : Int)] rfl _ rfl (by simp) rfl (by simp [Value.oneCell']) (by omega) (by omega) hal.size ?_)
      intro v4 w4 ho4 hB4 hg4
      have hb4 := hB4 _ (Nat.le_refl _) _ hal
      have hD4 := hD.grown hg4 (Ne.symm (own_blk_ne hown1 hD (by decide)))
      obtain ⟨A6, c6, rfl, hc7, hc8⟩ := own_slice ho4
      have hD0 : w4.cell? ⟨wr.heap.size, 0, none⟩ = some (.int .i64 (dk : Int)) := by rw [hD4.cell]; rfl
      have hDl := hD4.lt
      have ho4' : w4.ownsRow w.heap.size 5 1 (.slice A6 (bs.length + 1) c6) (bs ++ [UInt8.ofNat dk]).length (by8 (bs ++ [UInt8.ofNat dk])) := by
        rw [by8_append, HKB.out, List.length_append]; exact ho4
      clear ho4 hB4 hg4 hal hown1 x0 x1 x2 x3 hD
      by_cases hk1 : dk = 1
      · subst hk1
        have hD0' : w4.cell? ⟨wr.heap.size, 0, none⟩ = some (.int .i64 1) := hD0
        clear hD0
        go_wp2_with fail
        have hBw4 : w.heap.size ≤ w4.heap.size := hb4.size
        refine wp_region_ph [([0, 1, 2, 3, 5, 6, 7, 9, 10, 11], [4, 8, 12]), ([13], [])] (fun w' => Blk w' wr.heap.size 36 #[.int .i64 ((1 : Nat) : Int), .int .i64 (dp : Int), .int .i64 (dc : Int), .string dput]) (by kernel_rfl) (by kernel_rfl) (fun _ _ h1 h2 => h1.below h2 h1.lt) hD4 ?_
        intro ι F hne hF W0 hW0 hI0
        have t1F : ∀ i, (F i).cell? ⟨wr.heap.size, 1, none⟩ = some (.int .i64 (dp : Int)) := fun i => by rw [(hF i).cell]; rfl
        have t2F : ∀ i, (F i).cell? ⟨wr.heap.size, 2, none⟩ = some (.int .i64 (dc : Int)) := fun i => by rw [(hF i).cell]; rfl
        have t3F : ∀ i, (F i).cell? ⟨wr.heap.size, 3, none⟩ = some (.string dput) := fun i => by rw [(hF i).cell]; rfl
        (refine wpPh_cons ?_; simp only [pickOps, List.getElem?_cons_succ, List.getElem?_cons_zero])
        repeat (refine wpB_step (fun K hK => ?_); go_simp; first | (refine hK _ ?_; clear hK K) | (apply Exists.intro; refine ⟨fun _ => ?_, hK _ ?_⟩; (fail); clear hK K))
        refine wpB_nil ?_
        intro w5 hw5 hI5
        clear t1F t2F t3F hF
        have hbw5 : Below w4.heap.size w4 w5 := below_trans3 hW0 hw5
        have hls : dput.data.toList.length = dput.size := by simp
        have hl1 : (bs ++ [UInt8.ofNat 1]).length = bs.length + 1 := by simp
        have hl2 : (bs ++ [UInt8.ofNat 1] ++ num dp).length = bs.length + 3 := by simp [num_len]
        have hl3 : (bs ++ [UInt8.ofNat 1] ++ num dp ++ num dc).length = bs.length + 5 := by simp [num_len]
        have HL1 := Lib.hid hl1
        have HL2 := Lib.hid hl2
        have HL3 := Lib.hid hl3
        clear hl1 hl2 hl3 hls
        have ho5 := own_below ho4' hbw5
        have hs5 : w.heap.size ≤ w5.heap.size := Nat.le_trans hBw4 hbw5.size
        have hb5 : Below w.heap.size w w5 := hb4.trans (hbw5.mono hBw4)
        refine wpRB_step (fun K hK => ?_)
        go_simp
        refine (number_any _ _ dp w.heap.size w5 ho5 (by omega) (by rw [HL1.out]; omega) hs5).mono ?_
        rintro e w6 ⟨v6, rfl, ho6, hb6, hk6⟩
        refine ⟨_, rfl, hK _ _ ⟨hk6.blk hI5 (by decide), ?_⟩⟩
        clear hK K
        intro w7 hw7 hI7
        have ho7 := own_below ho6 hw7
        have hb7 : Below w.heap.size w w7 := (hb6 _ (Nat.le_refl _) _ hb5).trans (hw7.mono (hb6 _ (Nat.le_refl _) _ hb5).size)
        refine wpRB_step (fun K hK => ?_)
        go_simp
        refine (number_any _ _ dc w.heap.size w7 ho7 (by omega) (by rw [HL2.out]; omega) hb7.size).mono ?_
        rintro e w8 ⟨v8, rfl, ho8, hb8, hk8⟩
        refine ⟨_, rfl, hK _ _ ⟨hk8.blk hI7 (by decide), ?_⟩⟩
        clear hK K
        intro w9 hw9 hI9
        have ho9 := own_below ho8 hw9
        have hb9 : Below w.heap.size w w9 := (hb8 _ (Nat.le_refl _) _ hb7).trans (hw9.mono (hb8 _ (Nat.le_refl _) _ hb7).size)
        refine wpRB_step (fun K hK => ?_)
        go_simp
        refine (text_any _ _ dput w.heap.size w9 ho9 (by omega) (by rw [HL3.out]; omega) hb9.size).mono ?_
        rintro e w10 ⟨v10, rfl, ho10, hb10, hk10⟩
        refine ⟨_, rfl, hK _ _ ⟨hk10.blk hI9 (by decide), ?_⟩⟩
        clear hK K
        intro w11 hw11 hI11
        have hb11 : Below w.heap.size w w11 := (hb10 _ (Nat.le_refl _) _ hb9).trans (hw11.mono (hb10 _ (Nat.le_refl _) _ hb9).size)
        have ho11 := own_below ho10 hw11
        refine wpRB_nil ?_
        (refine wpPh_cons ?_; simp only [pickOps, List.getElem?_cons_succ, List.getElem?_cons_zero])
        repeat (refine wpB_step (fun K hK => ?_); go_simp; first | (refine hK _ ?_; clear hK K) | (apply Exists.intro; refine ⟨fun _ => ?_, hK _ ?_⟩; (fail); clear hK K))
        refine wpB_nil ?_
        intro w12 hw12 hI12
        have ho12 := own_below ho11 hw12
        have hb12 : Below w.heap.size w w12 := hb11.trans (hw12.mono hb11.size)
        refine wpRB_nil ?_
        refine wpPh_nil ?_
        have e9 : bs ++ [UInt8.ofNat 1] ++ num dp ++ num dc ++ (num dput.size ++ dput.data.toList) = bs ++ dby ⟨1, dp, dc, dput⟩ := by
          simp [dby]
        rw [e9] at ho12
        have HO := Lib.hid ho12
        have HB := Lib.hid hb12
        clear ho5 ho6 ho7 ho8 ho9 ho10 ho11 ho12 hb5 hb6 hb7 hb8 hb9 hb10 hb11 hb12 hI0 hI5 hI7 hI9 hI11 hI12 hw5 hw7 hw9 hw11 hw12 hk6 hk8 hk10 hW0 hbw5 ho4' hb4 hD4 e9
        go_wp2_with fail
        go_roundw
        case rel =>
          refine ⟨k + 1, by omega, by go_num, ?_, HB.out⟩
          rw [HTK.out, ← List.append_assoc, HBS.out]; exact HO.out
        case measure => simp [intOf]; omega
      · have e9 : bs ++ [UInt8.ofNat dk] = bs ++ dby ⟨dk, dp, dc, dput⟩ := by simp [dby, hk1]
        rw [e9] at ho4'
        have HO := Lib.hid ho4'
        have HB := Lib.hid hb4
        have hkd : ((dk : Int) == 1) = false := by rw [beq_eq_false_iff_ne]; omega
        have hkd2 : decide ((dk : Int) = 1) = false := by rw [decide_eq_false_iff_not]; omega
        clear ho4' hb4 hD4 e9
        go_wp2_with fail
        go_roundw
        case rel =>
          refine ⟨k + 1, by omega, by go_num, ?_, HB.out⟩
          rw [HTK.out, ← List.append_assoc, HBS.out]; exact HO.out
        case measure => simp [intOf]; omega
    · obtain rfl : k = l.length := by omega
      rw [List.take_length] at hown
      have HEL := Lib.hid (enc_len s l HOK.out)
      have he : ((headB ++ (num s.size ++ s.data.toList)) ++ num l.length) ++ l.flatMap dby = encB s l := rfl
      rw [he] at hown
      have hel := HEL.out
      have hpos : 0 < (encB s l).length := by simp [encB, headB]
      generalize hBS : encB s l = bs at *
      have HENC : Hid (enc s l = bs ++ sum4 (hv bs).toNat) := Lib.hid (by rw [enc, hBS])
      clear he hBS HEL
      obtain ⟨g, cap2, rfl, hg, hgl⟩ := hown.form hpos
      obtain ⟨A9, c9, hv9, hc9, hc10⟩ := own_slice hown
      injection hv9 with a1 a2 a3
      subst a1
      subst a3
      have hcc : ∀ j (hj : j < bs.length), wr.cell? ((⟨g, 0, none⟩ : Addr).add j) = some (.int .u8 (bs[j].toNat : Int)) := fun j hj => by
        rw [add_plain, Nat.zero_add]
        have := hown.cellAt j (by omega)
        rw [by8, List.getElem?_map, List.getElem?_eq_getElem hj] at this; exact this
      have hcv := run_convert_bytes_back (P := Try.prog) wr 27 9 5 ⟨g, 0, none⟩ cap2 bs Try.underlying27 Try.underlying5 Try.underlying9 hcc
      have hbsz : (⟨bs.toArray⟩ : ByteArray).size = bs.length := by simp [ByteArray.size]
      have HPO := Lib.hid (polyOf_any ⟨bs.toArray⟩ wr (by rw [hbsz]; unfold maxLen; omega))
      have hbd := hv_bd bs
      obtain ⟨N, hN⟩ : ∃ N : Nat, hv bs = (N : Int) := ⟨(hv bs).toNat, by omega⟩
      have e8 : (⟨bs.toArray⟩ : ByteArray).data.toList = bs := by simp
      rw [e8, hN] at HPO
      have HN := Lib.hid hN
      have hN2 : N < 2147483647 := by omega
      have HOW := Lib.hid hown
      have HB := Lib.hid hb
      clear hcc hbsz e8 hbd hN hown hb
      go_wp2_with fail
      refine HPO.out.mono ?_
      rintro e w4 ⟨rfl, hb4⟩
      clear hcv
      have hbw4 := HB.out.trans (hb4.mono HB.out.size)
      have hown4 := own_below HOW.out hb4
      have HS4 := Lib.hid (by8_sum4 N hN2)
      have hal := (Below.refl w4.heap.size w4).alloc (Nat.le_refl _) (.cells #[.int .u8 ((N : Int) / 16777216), .int .u8 ((N : Int) / 65536 % 256), .int .u8 ((N : Int) / 256 % 256), .int .u8 ((N : Int) % 256)] 5)
      have hown5 := own_below hown4 hal
      have hrd := Reads.news w4 [.int .u8 ((N : Int) / 16777216), .int .u8 ((N : Int) / 65536 % 256), .int .u8 ((N : Int) / 256 % 256), .int .u8 ((N : Int) % 256)] 5 1 4 rfl
      obtain ⟨i, hi0, hz0, hzz, hzb⟩ := info_parts u8_info
      have hlt5 := hown5.lt
      go_wp2_with (at_builtin; refine wpList_append_any _ rfl (.tmp 57) (.tmp 69) _ rfl w.heap.size 5 i _ 1 1 Try.underlying27 hi0 hz0 hzz hzb rfl (by decide) _ bs.length (by8 bs) rfl hown5 _ (some ⟨w4.heap.size, 0, none⟩) 4 4 [.int .u8 ((N : Int) / 16777216), .int .u8 ((N : Int) / 65536 % 256), .int .u8 ((N : Int) / 256 % 256), .int .u8 ((N : Int) % 256)] rfl hrd (by simp [Value.oneCell']) (by unfold maxLen; omega) (by omega) (Nat.le_trans hbw4.size hal.size) ?_)
      intro v6 w6 ho6 hg6 hat6
      have hb6 : Below w.heap.size w w6 := (hbw4.trans (hal.mono hbw4.size)).grown hg6 (Nat.le_trans hbw4.size hal.size) (fun g e => (hlt5 g e).1)
      obtain ⟨A6, c6, rfl, hc7, hc8⟩ := own_slice ho6
      have HO6 := Lib.hid ho6
      have HB6 := Lib.hid hb6
      clear ho6 hg6 hat6 hown5 hown4 hal hrd hb6 hbw4
      go_wp2_with fail
      refine bodyPost_ret (v := .tuple #[.slice A6 (bs.length + 4) c6, .int .i64 0]) (by simp [results, Try.results16, go_sem]) rfl ⟨_, rfl, ?_, HB6.out⟩
      rw [HENC.out, HN.out, Int.toNat_natCast, by8_append, HS4.out, List.length_append]
      exact HO6.out
end Go.Proofs.Ytegobmlbldabbaa
