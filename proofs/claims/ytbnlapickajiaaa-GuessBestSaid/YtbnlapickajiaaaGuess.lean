/-
  The walk of fuzzy.Guess.
-/
import Derived.Test.YtbnlapickajiaaaSortI
import Derived.Test.YtbnlapickajiaaaGuessC
import Derived.Test.YtbnlapickajiaaaFarFrom
import Derived.Test.YtbnlapickajiaaaMix
import Derived.Test.YtbnlapickajiaaaCopy
import Derived.BigQuiet
namespace Go.Proofs.Ytbnlapickajiaaa
open Go.RowKit Go.Shelf Go.Sort
set_option linter.unusedVariables false
set_option linter.unusedSimpArgs false

def gF (ws : List ByteArray) (word : ByteArray) (i : Fin ws.length) : Nat := Lv.lev ws[i.val].data.toList word.data.toList
def gS (ws : List ByteArray) (i : Fin ws.length) : List UInt8 := (ws[i.val]).toList
def GuessPost (ws : List ByteArray) (word : ByteArray) (m : Nat) (w : World) (e : Ending) (w' : World) : Prop :=
  ∃ g c, ∃ l : List (Fin ws.length), e = .returned (.tuple #[.slice (some ⟨g, 0, none⟩) m c, .int .i64 0]) ∧ SortF (ltOf (gcf (gF ws word) (gS ws))) l ∧ w.heap.size ≤ g ∧ w'.ownsRow w.heap.size 3 1 (.slice (some ⟨g, 0, none⟩) ws.length c) ws.length (l.map encF) ∧ Below w.heap.size w w'
def farsTo (ws : List ByteArray) (word : ByteArray) (k j : Nat) : Value := .int .i64 (if j < k then (Lv.lev (ws.getD j ⟨#[]⟩).data.toList word.data.toList : Int) else 0)
theorem range_fin (n : Nat) : ((List.range n).map fun (i : Nat) => Value.int .i64 (i : Int)) = (List.finRange n).map encF := by
  refine List.ext_getElem (by simp) fun i h1 h2 => ?_
  simp [encF]
set_option maxRecDepth 100000 in
set_option maxHeartbeats 4000000 in
theorem guess_any (v : Value) (ws : List ByteArray) (word : ByteArray) (m : Nat) (w : World) (hr : SRow w v ws) (hall : ∀ s ∈ ws, s.size ≤ 20) (hwd : word.size ≤ 20) (hN : ws.length ≤ 60) (hN1 : 0 < ws.length) (hm : m ≤ ws.length) :
    Calls Try.prog 10 #[v, .string word, .int .i64 (m : Int)] w (GuessPost ws word m w) := by
  have HALL := Lib.hid hall
  have HR := Lib.hid hr
  obtain ⟨A, c, rfl, hlc, hc, hrd⟩ := hr
  have BW := Blk.new w 24 #[.slice A ws.length c]
  have hal := (Below.refl w.heap.size w).alloc (Nat.le_refl _) (.cells #[.slice A ws.length c] 24)
  have hal2 := hal.alloc (by simp) (.cells #[.string word] 9)
  have hs1 := SRow.lit (w.alloc (.cells #[.slice A ws.length c] 24)) 9 [word] (show 1 ≤ maxLen by decide)
  have HL1 := Lib.hid (long_any _ [word] _ hs1 (fun s hs => by rw [List.mem_singleton] at hs; subst hs; exact hwd))
  have HL2 := Lib.hid (long_any _ ws _ (HR.out.later hal2) hall)
  have BW2 := BW.below ((Below.refl _ _).alloc (Nat.le_refl _) (.cells #[.string word] 9)) BW.lt
  have HAL2 := Lib.hid hal2
  have y0 : ((w.alloc (.cells #[.slice A ws.length c] 24)).alloc (.cells #[.string word] 9)).cell? ⟨w.heap.size, 0, none⟩ = some (.slice A ws.length c) := BW2.cell 0
  have g1 : ¬ (80 : Int) < (ws.length : Int) := by omega
  have g2 : ¬ (m : Int) < 0 := by omega
  clear hrd hal hal2 hs1 hall BW
  simp only [World.size_alloc] at HL1
  go_enter Try.func10, Try.ntmps10
  go_wp2_with fail
  refine HL1.out.mono ?_
  rintro e w' ⟨rfl, hw'⟩
  subst hw'
  go_wp2_with fail
  refine HL2.out.mono ?_
  rintro e w' ⟨rfl, hw'⟩
  subst hw'
  have hgw : w.heap.size < ((w.alloc (.cells #[.slice A ws.length c] 24)).alloc (.cells #[.string word] 9)).heap.size := by simp; omega
  have hmk : ∀ W : World, (Instr.makeSlice 23 (.int .i64 (ws.length : Int)) (.int .i64 (ws.length : Int))).run Try.prog W = .ok (.slice (some ⟨W.heap.size, 0, none⟩) ws.length ws.length) (W.alloc (.cells (madeCells #[.int .i64 0] ws.length) 3)) :=
    fun W => run_make_row' (P := Try.prog) 23 3 (.int .i64 0) 8 Try.underlying23 int_info rfl .i64 .i64 ws.length (by omega) (by omega) W
  generalize ((w.alloc (.cells #[.slice A ws.length c] 24)).alloc (.cells #[.string word] 9)) = W2 at *
  clear HL1 HL2
  go_wp2_with fail
  clear hmk y0
  have BF := Blk.new (W2.alloc (.cells (madeCells #[.int .i64 0] ws.length) 3)) 23 #[.slice (some ⟨W2.heap.size, 0, none⟩) ws.length ws.length]
  have ha4 := ((Below.refl W2.heap.size W2).alloc (Nat.le_refl _) (.cells (madeCells #[.int .i64 0] ws.length) 3)).alloc (by simp) (.cells #[.slice (some ⟨W2.heap.size, 0, none⟩) ws.length ws.length] 23)
  have BW4 := BW2.below ha4 hgw
  have HB4 := Lib.hid (bstep HAL2.out ha4)
  have hrow0 := rowIs_later (World.rowIs_made W2 (.int .i64 0) ws.length 3) ((Below.refl _ _).alloc (Nat.le_refl _) (.cells #[.slice (some ⟨W2.heap.size, 0, none⟩) ws.length ws.length] 23))
  have h4s : W2.heap.size + 1 < ((W2.alloc (.cells (madeCells #[.int .i64 0] ws.length) 3)).alloc (.cells #[.slice (some ⟨W2.heap.size, 0, none⟩) ws.length ws.length] 23)).heap.size := by simp
  simp only [World.size_alloc] at BF
  generalize ((W2.alloc (.cells (madeCells #[.int .i64 0] ws.length) 3)).alloc (.cells #[.slice (some ⟨W2.heap.size, 0, none⟩) ws.length ws.length] 23)) = W4 at *
  generalize W2.heap.size = fb at *
  clear ha4 BW2 HAL2
  go_loopw [8, 10, 11, 33] (fun vo _ _ vi wr => ∃ k : Nat, k ≤ ws.length ∧ vi = .int .i64 k ∧ wr.ownsRow W4.heap.size 3 1 vo k ((List.range k).map fun (i : Nat) => .int .i64 (i : Int)) ∧ wr.rowIs fb 3 ws.length (farsTo ws word k) ∧ Blk wr (fb + 1) 23 #[.slice (some ⟨fb, 0, none⟩) ws.length ws.length] ∧ Blk wr w.heap.size 24 #[.slice A ws.length c] ∧ W4.heap.size ≤ wr.heap.size ∧ Below w.heap.size w wr) (fun _ _ _ vi _ => ws.length - (intOf vi).toNat)
  case atStart => exact ⟨0, Nat.zero_le _, rfl, World.ownsRow_nil _ _ _ _, hrow0.congr (fun j _ => by simp [farsTo]), BF, BW4, Nat.le_refl _, HB4.out⟩
  case round =>
    clear hrow0 BF BW4 HB4
    obtain ⟨k, hk, rfl, hown, hrow, bf, bw, h4, hb⟩ := hrel
    obtain ⟨Ao, co, rfl, ho1, ho2⟩ := own_slice hown
    by_cases hlt : k < ws.length
    · obtain ⟨A', c', hv', _, _, hrd⟩ := HR.out
      injection hv' with e1 _ e3
      subst e1
      obtain ⟨b, off, rfl, hbb, x0⟩ := SRow.at_ (hrd.below hb) hlt
      have hst := HALL.out ws[k] (List.getElem_mem hlt)
      have HF := Lib.hid (fun V => far_any ws[k] word V (by omega) (by omega))
      have HTO : Hid (∀ j, farsTo ws word (k + 1) j = if j = k then .int .i64 (Lv.lev ws[k].data.toList word.data.toList : Int) else farsTo ws word k j) := Lib.hid (fun j => by
        unfold farsTo
        by_cases e : j = k
        · subst e; rw [if_pos rfl, if_pos (by omega), List.getD_eq_getElem?_getD, List.getElem?_eq_getElem hlt]; rfl
        · rw [if_neg e]
          by_cases q : j < k
          · rw [if_pos q, if_pos (by omega)]
          · rw [if_neg q, if_neg (by omega)])
      generalize Lv.lev ws[k].data.toList word.data.toList = fv at *
      generalize ws[k] = sk at *
      have hfbW : fb < W4.heap.size := by omega
      have HOW := Lib.hid hown
      have HBF := Lib.hid bf
      have HBW := Lib.hid bw
      have HROW := Lib.hid hrow
      have HB := Lib.hid hb
      have hbr : b < wr.heap.size := by have := hb.size; omega
      have hgwr := bw.lt
      have hk0 : (0 : Int) ≤ (k : Int) := by omega
      have hk1 : (k : Int) < (ws.length : Int) := by omega
      clear hown hrow bf bw hb hrd e3
      go_wp2_with (at_builtin; go_loud (refine wpList_appN rfl (.tmp 38) (.tmp 40) _ rfl W4.heap.size 3 _ 1 8 Try.underlying23 int_info rfl (by decide) (.slice Ao k co) k _ rfl HOW.out [.int .i64 (k : Int)] rfl _ rfl (by simp) rfl (by simp [Value.oneCell']) (by omega) (by omega) h4 ?_; intro v8 w8 ho8 hB8 hg8; have HO8 := Lib.hid ho8; have hb8 := hB8 _ (Nat.le_refl _) _ (Below.refl _ wr); clear ho8 hB8 hg8))
      have HBF8 := Lib.hid (HBF.out.below hb8 (by omega))
      have HBW8 := Lib.hid (HBW.out.below hb8 (by omega))
      have HROW8 := Lib.hid (rowIs_below HROW.out hb8 hfbW)
      have HB8 := Lib.hid (HB.out.trans (hb8.mono (by omega)))
      have h48 : W4.heap.size ≤ w8.heap.size := Nat.le_trans h4 hb8.size
      clear hb8 HOW HBF HBW HROW HB x0
      have hgf8 := HBF8.out.lt
      refine wp_region_mix 6 0 (fun w' => Below w8.heap.size w8 w') (by kernel_rfl) (by kernel_rfl) (fun _ _ h1 h2 => bstep h1 h2) (Below.refl _ _) ?_
      intro ι F hne hF
      have p0 : ∀ i, (F i).cell? ⟨fb + 1, 0, none⟩ = some (.slice (some ⟨fb, 0, none⟩) ws.length ws.length) := fun i => (HBF8.out.below (hF i) hgf8).cell 0
      simp only [List.take_succ_cons, List.take_zero, List.drop_succ_cons, List.drop_zero]
      repeat (refine wpB_step (fun K hK => ?_); go_simp; first | (refine hK _ ?_; clear hK K) | (apply Exists.intro; refine ⟨fun _ => ?_, hK _ ?_⟩; (first | ((with_reducible refine (HF.out _).mono ?_); rintro e w1 ⟨rfl, hb⟩; exact ⟨rfl, hb⟩)); clear hK K))
      refine wpB_nil ?_
      intro w9 hw9 hI9
      have HO9 := Lib.hid (own_below HO8.out hI9)
      have HBF9 := Lib.hid (HBF8.out.below hI9 hgf8)
      have HBW9 := Lib.hid (HBW8.out.below hI9 HBW8.out.lt)
      have hrow9 := rowIs_later HROW8.out hI9
      have HB9 := Lib.hid (bstep HB8.out hI9)
      have h49 : W4.heap.size ≤ w9.heap.size := Nat.le_trans h48 hI9.size
      clear p0 hw9 hI9 hF HO8 HBF8 HBW8 HROW8 HB8 h48
      refine wpR_nil ?_
      clear hne F
      have hcs := hrow9.cell (i := k) hlt
      have hfs := hrow9.frozen k
      have HROW9 := Lib.hid (hrow9.set k (.int .i64 (fv : Int)))
      have hno : v8.ownBlock ≠ some fb := fun e => by have := (HO9.out.lt fb e).1; omega
      have HO10 := Lib.hid (ownsRow_setCell_other HO9.out (a := ⟨fb, k, none⟩) hno (.int .i64 (fv : Int)))
      have HBF10 := Lib.hid (HBF9.out.far (p := ⟨fb, k, none⟩) (by show fb + 1 ≠ fb; omega) (.int .i64 (fv : Int)))
      have HBW10 := Lib.hid (HBW9.out.far (p := ⟨fb, k, none⟩) (by show w.heap.size ≠ fb; omega) (.int .i64 (fv : Int)))
      have HB10 := Lib.hid (HB9.out.setCell (p := ⟨fb, k, none⟩) (by show w.heap.size ≤ fb; omega) (.int .i64 (fv : Int)))
      clear hrow9 HO9 HBF9 HBW9 HB9 hno
      go_wp2_with fail
      refine ⟨⟨k + 1, by omega, by go_num, ?_, HROW9.out.congr (fun j hj => ?_), HBF10.out, HBW10.out, by simpa using h49, HB10.out⟩, by simp [intOf]; omega⟩
      · rw [List.range_succ, List.map_append]; exact HO10.out
      · rw [HTO.out]
    · obtain rfl : k = ws.length := by omega
      obtain ⟨A', c', hv', _, _, hrd⟩ := HR.out
      injection hv' with e1 _ e3
      subst e1
      obtain ⟨b, off, rfl, hbb, _⟩ := SRow.at_ hrd hN1
      obtain ⟨g, cg, hvg, hg, hgl⟩ := hown.form hN1
      injection hvg with e4 _ e6
      subst e4
      subst e6
      haveI : Inhabited (Fin ws.length) := ⟨⟨0, hN1⟩⟩
      rw [range_fin] at hown
      have eg : ∀ args w, (callFunc 20 args).run Try.prog w = .ok (.enter 20 args) w := enters_of Try.func20 (by kernel_rfl) rfl
      have hfarc : ∀ i : Fin ws.length, wr.cell? ⟨fb, i.val, none⟩ = some (.int .i64 ((gF ws word i : Nat) : Int)) := fun i => by
        have h9 := hrow.cell (i := i.val) i.isLt
        rw [h9]
        unfold farsTo gF
        rw [if_pos i.isLt, List.getD_eq_getElem?_getD, List.getElem?_eq_getElem i.isLt]
        rfl
      have hwc : ∀ i : Fin ws.length, wr.cell? ⟨b, off + i.val, none⟩ = some (.string ws[i.val]) := fun i => by
        obtain ⟨b', off', he, _, h9⟩ := SRow.at_ (hrd.below hb) i.isLt
        injection he with he
        injection he with e7 e8
        subst e7; subst e8
        exact h9
      have hbl := Nat.lt_of_lt_of_le hbb (Nat.le_refl w.heap.size)
      have HSF := Lib.hid (sortFunc_any (gcf (gF ws word) (gS ws)) (gst_swo _ _) 20 #[.pointer (some ⟨fb + 1, 0, none⟩), .pointer (some ⟨w.heap.size, 0, none⟩)] g co W4.heap.size wr eg hown (by omega) (fun x y V hV =>
        Gr.guessCmp (gF ws word) (fun i => ws[i.val]) x y V (fb + 1) w.heap.size fb b off _ _
          (hV ⟨fb + 1, 0, none⟩ _ (by show fb + 1 ≠ g; omega) (bf.cell 0)) (hV ⟨w.heap.size, 0, none⟩ _ (by show w.heap.size ≠ g; omega) (bw.cell 0))
          (fun i => hV ⟨fb, i.val, none⟩ _ (by show fb ≠ g; omega) (hfarc i)) (fun i => hV ⟨b, off + i.val, none⟩ _ (by show b ≠ g; omega) (hwc i))))
      have HB := Lib.hid hb
      have hw4 : w.heap.size ≤ W4.heap.size := by omega
      clear hown hrow bf bw hb hrd eg hfarc hwc
      go_wp2_with fail
      refine HSF.out.mono ?_
      rintro e w9 ⟨rfl, l, hl, ho9, hb9⟩
      have HL := Lib.hid hl
      have HO9 := Lib.hid ho9
      have HB9 := Lib.hid (HB.out.trans (hb9.mono hw4))
      have hmin : min (m : Int) (ws.length : Int) = (m : Int) := by omega
      clear hl ho9 hb9 HSF HB
      go_wp2_with fail
      go_ret2
      exact ⟨g, co, l, rfl, HL.out, by omega, own_mono HO9.out hw4, HB9.out⟩
end Go.Proofs.Ytbnlapickajiaaa
