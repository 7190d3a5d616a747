/-
  The walk of GuessBest: at every input it returns true, and nothing that was there is changed.
-/
import Derived.Test.YtbnlapickajiaaaGuess
import Derived.Test.YtbnlapickajiaaaRws
import Derived.Test.YtbnlapickajiaaaPick
import Derived.Test.YtbnlapickajiaaaCopy
import Derived.BigQuiet
import Derived.Deep.QuietTactic
namespace Go.Proofs.Ytbnlapickajiaaa
open Go.RowKit Go.Sort
set_option linter.unusedVariables false
set_option linter.unusedSimpArgs false

theorem gstr_info : (Try.prog.info? 9).map (fun i => (i.zero, i.size, i.bytes)) = some (some (.string ⟨#[]⟩), 1, 16) := by kernel_rfl
theorem gbool_info : (Try.prog.info? 4).map (fun i => (i.zero, i.size, i.bytes)) = some (some (.bool false), 1, 1) := by kernel_rfl
section
variable {ws : List ByteArray} {word : ByteArray} {l : List (Fin ws.length)}
theorem sf_mono (h : SortF (ltOf (gcf (gF ws word) (gS ws))) l) {i j : Nat} (hi : i < l.length) (hj : j < l.length) (hij : i < j) : gF ws word l[i] ≤ gF ws word l[j] := by
  have h1 := h.2
  rw [List.pairwise_iff_getElem] at h1
  have h2 := h1 i j hi hj hij
  rcases Nat.lt_or_ge (gF ws word l[j]) (gF ws word l[i]) with q | q
  · have h3 : ltOf (gcf (gF ws word) (gS ws)) l[j] l[i] = true := by
      unfold ltOf; rw [decide_eq_true_eq]; exact (gcf_lt _ _ _ _).2 (.inl q)
    rw [h3] at h2; cases h2
  · exact q
theorem sf_len (h : SortF (ltOf (gcf (gF ws word) (gS ws))) l) : l.length = ws.length := by rw [h.1.length_eq, List.length_finRange]
theorem sf_at (h : SortF (ltOf (gcf (gF ws word) (gS ws))) l) (x : Fin ws.length) : ∃ j, ∃ hj : j < l.length, l[j] = x := by
  have h1 : x ∈ l := h.1.mem_iff.2 (List.mem_finRange x)
  obtain ⟨j, hj, h2⟩ := List.getElem_of_mem h1
  exact ⟨j, hj, h2⟩
theorem sf_first (h : SortF (ltOf (gcf (gF ws word) (gS ws))) l) (hl : 0 < l.length) (hw : word ∈ ws) : ws[(l[0]).val] = word := by
  obtain ⟨k, hk, hkw⟩ := List.getElem_of_mem hw
  obtain ⟨j, hj, hjk⟩ := sf_at h ⟨k, hk⟩
  have h0 : gF ws word ⟨k, hk⟩ = 0 := by
    show Lv.lev ws[k].data.toList word.data.toList = 0
    rw [hkw]; exact Lv.lev_self _
  have h1 : gF ws word l[0] ≤ gF ws word l[j] := by
    rcases Nat.eq_zero_or_pos j with q | q
    · subst q; exact Nat.le_refl _
    · exact sf_mono h hl hj q
  rw [hjk, h0] at h1
  have h2 := Lv.lev_zero _ _ (Nat.le_zero.1 h1)
  exact bytes_ext h2
theorem sf_nodup (h : SortF (ltOf (gcf (gF ws word) (gS ws))) l) : l.Nodup := h.1.nodup_iff.2 (List.nodup_finRange _)
def toldF (l : List (Fin ws.length)) (i j : Nat) : Bool := (l.take i).any fun x => x.val == j
theorem told_new (h : SortF (ltOf (gcf (gF ws word) (gS ws))) l) (i : Nat) (hi : i < l.length) : toldF l i (l[i]).val = false := by
  unfold toldF
  rw [List.any_eq_false]
  intro x hx
  obtain ⟨j, hj, rfl⟩ := List.getElem_of_mem hx
  rw [List.length_take] at hj
  rw [List.getElem_take]
  simp only [beq_iff_eq]
  intro e
  have e2 : l[j] = l[i] := Fin.ext e
  exact List.pairwise_iff_getElem.1 (sf_nodup h) j i (by omega) hi (by omega) e2
theorem told_succ (i : Nat) (hi : i < l.length) (j : Nat) : toldF l (i + 1) j = (toldF l i j || (l[i]).val == j) := by
  unfold toldF
  rw [List.take_succ_eq_append_getElem hi, List.any_append]
  simp
def lastF (l : List (Fin ws.length)) (word : ByteArray) (i : Nat) : Nat := ((l.take i).getLast?.map (gF ws word)).getD 0
theorem lastF_zero : lastF l word 0 = 0 := by simp [lastF]
theorem lastF_succ (i : Nat) (hi : i < l.length) : lastF l word (i + 1) = gF ws word l[i] := by
  unfold lastF
  rw [List.take_succ_eq_append_getElem hi, List.getLast?_append, List.getLast?_singleton]
  rfl
theorem last_le (h : SortF (ltOf (gcf (gF ws word) (gS ws))) l) (i : Nat) (hi : i < l.length) : lastF l word i ≤ gF ws word l[i] := by
  cases i with
  | zero => rw [lastF_zero]; exact Nat.zero_le _
  | succ i => rw [lastF_succ i (by omega)]; exact sf_mono h (by omega) hi (by omega)
theorem told_not (h : SortF (ltOf (gcf (gF ws word) (gS ws))) l) (n : Nat) (hn : 0 < n) (hnl : n ≤ l.length) (j : Nat) (hj : j < ws.length) (ht : toldF l n j = false) : gF ws word (l[n - 1]'(by omega)) ≤ Lv.lev ws[j].data.toList word.data.toList := by
  obtain ⟨k, hk, hkj⟩ := sf_at h ⟨j, hj⟩
  have hkn : n ≤ k := by
    rcases Nat.lt_or_ge k n with q | q
    · unfold toldF at ht
      rw [List.any_eq_false] at ht
      have h1 : l[k] ∈ l.take n := by
        have : l[k] = (l.take n)[k]'(by rw [List.length_take]; omega) := by rw [List.getElem_take]
        rw [this]; exact List.getElem_mem _
      have := ht _ h1
      rw [hkj] at this
      simp at this
    · exact q
  have h2 := sf_mono h (show n - 1 < l.length by omega) hk (by omega)
  rw [hkj] at h2
  exact h2
end
set_option maxRecDepth 100000 in
set_option maxHeartbeats 16000000 in
theorem guessBest_walk (w : World) (v0 : Value) (xss : List (List Int)) (h0 : Rws w v0 xss) (v1 : Value) (ys : List Int) (h1 : Row .i64 w v1 ys) (many : Int) (hmy : -9223372036854775808 ≤ many ∧ many ≤ 9223372036854775807) :
    Calls Try.prog 3 #[v0, v1, .int .i64 many] w fun e w' => e = .returned (.bool true) ∧ Below w.heap.size w w' := by
  have H0 := Lib.hid h0
  have H1 := Lib.hid h1
  obtain ⟨A0, c0, rfl, hl0, hc0, _⟩ := h0
  obtain ⟨A1, c1, rfl, hl1, _⟩ := h1
  go_enter Try.func3, Try.ntmps3
  go_wp2_with fail
  go_loopw [7, 8] (fun vo vi wr => ∃ (i : Nat) (o : List ByteArray), vi = .int .i64 i ∧ i ≤ 20 ∧ o.length = i ∧ Hid (∀ s ∈ o, s.size ≤ 9) ∧ wr.ownsRow w.heap.size 9 1 vo o.length (o.map .string) ∧ Below w.heap.size w wr) (fun _ vi _ => 20 - (intOf vi).toNat)
  case atStart => exact ⟨0, [], rfl, by omega, rfl, Lib.hid (fun s hs => nomatch hs), World.ownsRow_nil _ _ _ _, Below.refl _ _⟩
  case round =>
    obtain ⟨i, o, rfl, hi20, hol, HS, hown, hb⟩ := hrel
    have hbs := hb.size
    have HL := Lib.hid hol
    have hol21 : o.length ≤ 20 := by omega
    clear hol
    obtain ⟨Ao, co, rfl, ho1, ho2⟩ := own_slice hown
    by_cases hlt : i < xss.length ∧ i < 20
    · obtain ⟨hlt1, hlt2⟩ := hlt
      obtain ⟨b, off, u, rfl, hbb, x0, hru⟩ := Rws.at_ (H0.out.later hb) hlt1
      have HF := Lib.hid (few_any u xss[i] 9 wr hru (by omega) (by omega))
      have HOW := Lib.hid hown
      have HB := Lib.hid hb
      have hi0 : (0 : Int) ≤ (i : Int) := by omega
      have hi1 : (i : Int) < (xss.length : Int) := by omega
      have hi2 : (i : Int) < 20 := by omega
      clear hown hb hru
      go_wp2_with fail
      refine HF.out.mono ?_
      rintro e w2 ⟨s, rfl, hs, hb2⟩
      have hsl := few_len _ _ _ hs
      have HO2 := Lib.hid (own_below HOW.out hb2)
      have HB2 := Lib.hid (bstep HB.out hb2)
      clear hs hb2 HF x0 HOW HB
      go_wp2_with (at_builtin; go_loud (refine wpList_appN rfl (.tmp 27) (.tmp 33) _ rfl w.heap.size 9 _ 1 16 Try.underlying24 gstr_info rfl (by decide) (.slice Ao o.length co) o.length _ rfl HO2.out [.string s] rfl _ rfl (by simp) rfl (by simp [Value.oneCell']) (by omega) (by omega) HB2.out.size ?_; intro v8 w8 ho8 hB8 hg8; have HO8 := Lib.hid ho8; have HB8 := Lib.hid (hB8 _ (Nat.le_refl _) _ HB2.out); clear ho8 hB8 hg8))
      refine ⟨⟨i + 1, o ++ [s], by go_num, by omega, by rw [List.length_append, HL.out]; rfl, Lib.hid (fun x hx => ?_), ?_, HB8.out⟩, by simp [intOf]; omega⟩
      · rcases List.mem_append.1 hx with hx | hx
        · exact HS.out x hx
        · rw [List.mem_singleton] at hx; subst hx; exact hsl
      · rw [List.map_append, List.length_append]; exact HO8.out
    · have HOW := Lib.hid hown
      have HB := Lib.hid hb
      have HF := Lib.hid (few_any _ ys 9 wr (H1.out.later hb) (by omega) (by omega))
      clear hown hb
      by_cases hlt1 : i < xss.length
      · have hge : 20 ≤ i := by omega
        obtain rfl : i = 20 := by omega
        go_wp2_with fail
        refine HF.out.mono ?_
        rintro e w2 ⟨word, rfl, hs, hb2⟩
        have hwl := few_len _ _ _ hs
        have HO2 := Lib.hid (own_below HOW.out hb2)
        have HB2 := Lib.hid (bstep HB.out hb2)
        clear hs hb2 HF HOW HB
        obtain ⟨ws, hws⟩ : ∃ ws : List ByteArray, ws = o ++ [word] := ⟨_, rfl⟩
        have hwN : ws.length = o.length + 1 := by rw [hws, List.length_append]; rfl
        have hmem : word ∈ ws := by rw [hws]; simp
        have hall : ∀ s ∈ ws, s.size ≤ 20 := fun x hx => by
          rw [hws] at hx
          rcases List.mem_append.1 hx with hx | hx
          · have := HS.out x hx; omega
          · rw [List.mem_singleton] at hx; subst hx; omega
        have hN1 : 0 < ws.length := by omega
        have hN2 : ws.length ≤ 21 := by omega
        have HWS := Lib.hid hws
        have HWN := Lib.hid hwN
        have HM := Lib.hid hmem
        have HAL := Lib.hid hall
        clear hws hwN hmem hall
        go_wp2_with (at_builtin; go_loud (refine wpList_appN rfl (.tmp 37) (.tmp 39) _ rfl w.heap.size 9 _ 1 16 Try.underlying24 gstr_info rfl (by decide) (.slice Ao o.length co) o.length _ rfl HO2.out [.string word] rfl _ rfl (by simp) rfl (by simp [Value.oneCell']) (by omega) (by omega) HB2.out.size ?_; intro v8 w8 ho8 hB8 hg8; have HW := Lib.hid (show w8.ownsRow w.heap.size 9 1 v8 ws.length (ws.map .string) by rw [HWN.out, HWS.out, List.map_append]; exact ho8); have HB8 := Lib.hid (hB8 _ (Nat.le_refl _) _ HB2.out); obtain ⟨A8, c8, rfl, hc81, hc82⟩ := own_slice HW.out; clear ho8 hB8 hg8))
        obtain ⟨n, hn1, hn2, KP⟩ : ∃ n : Nat, 1 ≤ n ∧ n ≤ ws.length ∧ ∀ W, Calls Try.prog 9 #[.int .i64 many, .int .i64 (ws.length : Int)] W fun e w' => e = .returned (.int .i64 ((n : Int) - 1)) ∧ W = w' := by
          have k1 := Int.emod_nonneg many (show (ws.length : Int) ≠ 0 by omega)
          have k2 := Int.emod_lt_of_pos many (show (0 : Int) < ws.length by omega)
          refine ⟨(many % (ws.length : Int)).toNat + 1, by omega, by omega, fun W => ?_⟩
          rw [show ((((many % (ws.length : Int)).toNat + 1 : Nat) : Int) - 1) = many % (ws.length : Int) by omega]
          exact picked_any many _ W hmy (by omega) (by omega)
        have KP := Lib.hid KP
        have e1 : 1 + ((n : Int) - 1) = (n : Int) := by omega
        have HRW := Lib.hid (Reads.of_own HW.out)
        clear HO2 HB2 HS HL ho1 ho2 hol21 HWS HWN
        refine (KP.out _).mono ?_
        rintro e w' ⟨rfl, rfl⟩
        go_wp2_with (at_builtin; go_loud (refine wpList_copy rfl (.tmp 47) _ rfl 9 _ 1 16 Try.underlying24 gstr_info rfl (by decide) A8 ws.length _ (ws.map .string) rfl HRW.out (fun u hu => by obtain ⟨x, _, rfl⟩ := List.mem_map.1 hu; rfl) (by omega) (by omega) ?_; intro v9 w9 ho9 hb9; have HO9 := Lib.hid ho9; have HB9 := Lib.hid hb9; clear ho9 hb9))
        refine (guess_any v9 ws word n w9 (SRow.of_own HO9.out) HAL.out (by omega) (by omega) hN1 hn2).mono ?_
        rintro e w10 ⟨g, c10, l, rfl, hsf, hg, hown, hb10⟩
        have HSF := Lib.hid hsf
        have hll := sf_len hsf
        have HW10 := Lib.hid (own_below (own_below HW.out HB9.out) hb10)
        have HB10 := Lib.hid (bstep (bstep HB8.out HB9.out) hb10)
        have HG10 := Lib.hid hown
        have hs0 := sf_first hsf (by omega) HM.out
        have HS0 := Lib.hid hs0
        obtain ⟨b, off, hA8, hbb, _⟩ := SRow.at_ (Reads.of_own HW10.out) hN1
        subst hA8
        clear hsf hg hown hb10 HRW HO9 HB9 HW HB8 KP e1 hs0
        have l0 : (l[0]'(by omega)).val < ws.length := (l[0]'(by omega)).isLt
        have gc0 : w10.cell? ⟨g, 0, none⟩ = some (.int .i64 (((l[0]'(by omega)).val : Nat) : Int)) := by
          have h9 := HG10.out.cellAt 0 (by omega)
          rw [List.getElem?_map, List.getElem?_eq_getElem (show 0 < l.length by omega)] at h9
          exact h9
        have wc0 : w10.cell? ⟨b, off + (l[0]'(by omega)).val, none⟩ = some (.string word) := by
          obtain ⟨b', off', he, _, h9⟩ := SRow.at_ (Reads.of_own HW10.out) l0
          injection he with he
          injection he with e7 e8
          subst e7; subst e8
          rw [HS0.out] at h9
          exact h9
        clear HS0
        generalize (l[0]'(by omega)).val = f0 at *
        have hf0 : (0 : Int) ≤ (f0 : Int) := by omega
        have hf1 : (f0 : Int) < (ws.length : Int) := by omega
        have hf2 : ¬ (f0 : Int) < 0 := by omega
        have hf3 : decide (ws.length ≤ f0) = false := decide_eq_false (by omega)
        have hn0 : (0 : Int) < (n : Int) := by omega
        have hmk : ∀ W : World, (Instr.makeSlice 30 (.int .i64 (ws.length : Int)) (.int .i64 (ws.length : Int))).run Try.prog W = .ok (.slice (some ⟨W.heap.size, 0, none⟩) ws.length ws.length) (W.alloc (.cells (madeCells #[.bool false] ws.length) 4)) :=
          fun W => run_make_row' (P := Try.prog) 30 4 (.bool false) 1 Try.underlying30 gbool_info rfl .i64 .i64 ws.length (by omega) (by omega) W
        go_wp2_with fail
        have hbg' : b < w10.heap.size := block_lt_of_cell wc0
        clear hmk gc0 wc0 hf0 hf1 hf2 hf3
        have hrow0 := World.rowIs_made w10 (.bool false) ws.length 4
        have HBM := Lib.hid ((Below.refl w10.heap.size w10).alloc (Nat.le_refl _) (.cells (madeCells #[.bool false] ws.length) 4))
        have hgg := (HG10.out.lt g rfl).2
        go_loopw [14, 15] (fun vl vi wr => ∃ i : Nat, vi = .int .i64 i ∧ i ≤ n ∧ vl = .int .i64 ((lastF l word i : Nat) : Int) ∧ wr.rowIs w10.heap.size 4 ws.length (fun j => .bool (toldF l i j)) ∧ Below w10.heap.size w10 wr) (fun _ vi _ => n - (intOf vi).toNat)
        case atStart => exact ⟨0, rfl, Nat.zero_le _, by rw [lastF_zero]; rfl, hrow0.congr (fun j _ => by simp [toldF]), HBM.out⟩
        case round =>
          clear hrow0 HBM
          obtain ⟨i, rfl, hin, rfl, hrow, hb⟩ := hrel
          by_cases hlt : i < n
          · have hil : i < l.length := by omega
            have fl := (l[i]).isLt
            have c0 : w10.cell? ⟨g, i, none⟩ = some (.int .i64 (((l[i]).val : Nat) : Int)) := by
              have h9 := HG10.out.cellAt i (by omega)
              rw [List.getElem?_map, List.getElem?_eq_getElem hil] at h9
              exact h9
            have c1 : w10.cell? ⟨b, off + (l[i]).val, none⟩ = some (.string ws[(l[i]).val]) := by
              obtain ⟨b', off', he, _, h9⟩ := SRow.at_ (Reads.of_own HW10.out) fl
              injection he with he
              injection he with e7 e8
              subst e7; subst e8
              exact h9
            have ht := told_new HSF.out i hil
            have HTS := Lib.hid (told_succ i hil)
            have hle := last_le HSF.out i hil
            have HLS := Lib.hid (lastF_succ (word := word) i hil)
            have hsz := HAL.out ws[(l[i]).val] (List.getElem_mem fl)
            have hff : ∀ V, Calls Try.prog 11 #[.string ws[(l[i]).val], .string word] V fun e w' => e = .returned (.int .i64 ((gF ws word l[i] : Nat) : Int)) ∧ Below V.heap.size V w' := fun V => farFrom_any _ word V hsz (by omega)
            have FF := Lib.hid hff
            clear hff hsz
            generalize gF ws word l[i] = fv at *
            generalize ws[(l[i]).val] = sk at *
            generalize (l[i]).val = f at *
            generalize lastF l word i = la at *
            have x0 : wr.cell? ⟨g, i, none⟩ = some (.int .i64 (f : Int)) := (hb.cell (p := ⟨g, i, none⟩) hgg).trans c0
            have x1 : wr.cell? ⟨b, off + f, none⟩ = some (.string sk) := (hb.cell (p := ⟨b, off + f, none⟩) hbg').trans c1
            have hcs := hrow.cell (i := f) fl
            rw [ht] at hcs
            have hi0 : (0 : Int) ≤ (i : Int) := by omega
            have hi1 : (i : Int) < (n : Int) := by omega
            have hf0 : (0 : Int) ≤ (f : Int) := by omega
            have hf1 : (f : Int) < (ws.length : Int) := by omega
            have hf2 : ¬ (f : Int) < 0 := by omega
            have hf3 : decide (ws.length ≤ f) = false := decide_eq_false (by omega)
            have hfl : decide (fv < la) = false := decide_eq_false (by omega)
            have HB := Lib.hid hb
            have HROW := Lib.hid hrow
            have hbsz := hb.size
            clear hb hrow c0 c1 ht
            go_wp2_with fail
            refine (FF.out _).mono ?_
            rintro e w11 ⟨rfl, hb11⟩
            have hrow11 := rowIs_later HROW.out hb11
            have h11 := bstep HB.out hb11
            have z0 : w11.cell? ⟨g, i, none⟩ = some (.int .i64 (f : Int)) := (hb11.cell (p := ⟨g, i, none⟩) (by show g < _; omega)).trans x0
            have z1 : w11.cell? ⟨b, off + f, none⟩ = some (.string sk) := (hb11.cell (p := ⟨b, off + f, none⟩) (by show b < _; omega)).trans x1
            have hcs := hrow11.cell (i := f) fl
            have hfs := hrow11.frozen f
            have HROW2 := Lib.hid (hrow11.set f (.bool true))
            have HB2 := Lib.hid (h11.setCell (p := ⟨w10.heap.size, f, none⟩) (Nat.le_refl _) (.bool true))
            have s0 : (w11.setCell ⟨w10.heap.size, f, none⟩ (.bool true)).cell? ⟨g, i, none⟩ = some (.int .i64 (f : Int)) := (World.cell?_setCell_other _ _ _ _ (fun e => by injection e with e; omega)).trans z0
            have s1 : (w11.setCell ⟨w10.heap.size, f, none⟩ (.bool true)).cell? ⟨b, off + f, none⟩ = some (.string sk) := (World.cell?_setCell_other _ _ _ _ (fun e => by injection e with e; omega)).trans z1
            clear hb11 hrow11 h11 x0 x1 HROW HB
            go_wp2_with fail
            refine (FF.out _).mono ?_
            rintro e w12 ⟨rfl, hb12⟩
            have HROW3 := Lib.hid (rowIs_later HROW2.out hb12)
            have HB3 := Lib.hid (bstep HB2.out hb12)
            clear hb12 s0 s1 z0 z1 HROW2 HB2
            go_wp2_with fail
            refine ⟨⟨i + 1, by go_num, by omega, by rw [HLS.out], HROW3.out.congr (fun j _ => ?_), HB3.out⟩, by simp [intOf]; omega⟩
            rw [HTS.out]
            by_cases e : j = f
            · subst e; simp
            · rw [if_neg e]
              have : (f == j) = false := by rw [beq_eq_false_iff_ne]; exact fun h => e h.symm
              rw [this, Bool.or_false]
          · obtain rfl : i = n := by omega
            have HROW := Lib.hid hrow
            have HB := Lib.hid hb
            have hbsz := hb.size
            have hlast : lastF l word i = gF ws word (l[i - 1]'(by omega)) := by
              have h9 := lastF_succ (word := word) (l := l) (i - 1) (by omega)
              rw [show i - 1 + 1 = i by omega] at h9
              exact h9
            have HTN := Lib.hid (fun j hj ht => told_not HSF.out i (by omega) (by omega) j hj ht)
            have HLA := Lib.hid hlast
            clear hrow hb hlast
            go_wp2_with fail
            go_loopw [16] (fun vk wq => ∃ k : Nat, vk = .int .i64 k ∧ k ≤ ws.length ∧ Below wr.heap.size wr wq) (fun vk _ => ws.length - (intOf vk).toNat)
            case atStart => exact ⟨0, rfl, Nat.zero_le _, Below.refl _ _⟩
            case round =>
              rename_i wo _
              obtain ⟨k, rfl, hk, hb⟩ := hrel
              by_cases hkl : k < ws.length
              · have hrow := rowIs_later HROW.out hb
                have hcs := hrow.cell (i := k) hkl
                have c1 : w10.cell? ⟨b, off + k, none⟩ = some (.string ws[k]) := by
                  obtain ⟨b', off', he, _, h9⟩ := SRow.at_ (Reads.of_own HW10.out) hkl
                  injection he with he
                  injection he with e7 e8
                  subst e7; subst e8
                  exact h9
                have x1 := ((bstep HB.out hb).cell (p := ⟨b, off + k, none⟩) hbg').trans c1
                have hk0 : (0 : Int) ≤ (k : Int) := by omega
                have hk1 : (k : Int) < (ws.length : Int) := by omega
                have HBQ := Lib.hid hb
                have hsz := HAL.out ws[k] (List.getElem_mem hkl)
                have FF := Lib.hid (fun V => farFrom_any ws[k] word V hsz (by omega))
                cases htd : toldF l i k
                · have hnl := HTN.out k hkl htd
                  rw [← HLA.out] at hnl
                  rw [htd] at hcs
                  have hfl : decide (Lv.lev ws[k].data.toList word.data.toList < lastF l word i) = false := decide_eq_false (by omega)
                  clear hb hrow c1 htd hnl hsz
                  generalize Lv.lev ws[k].data.toList word.data.toList = fv at *
                  generalize lastF l word i = la at *
                  generalize ws[k] = sk at *
                  go_wp2_with fail
                  refine (FF.out _).mono ?_
                  rintro e w12 ⟨rfl, hb12⟩
                  have HB12 := Lib.hid (bstep HBQ.out hb12)
                  clear hb12
                  go_wp2_with fail
                  refine ⟨⟨k + 1, by go_num, by omega, HB12.out⟩, by simp [intOf]; omega⟩
                · rw [htd] at hcs
                  clear hb hrow c1 htd hsz
                  go_wp2_with fail
                  refine ⟨⟨k + 1, by go_num, by omega, HBQ.out⟩, by simp [intOf]; omega⟩
              · obtain rfl : k = ws.length := by omega
                go_wp2_with fail
                go_ret
                exact ⟨rfl, bstep (bstep HB10.out HB.out) hb⟩
      · go_wp2_with fail
        refine HF.out.mono ?_
        rintro e w2 ⟨word, rfl, hs, hb2⟩
        have hwl := few_len _ _ _ hs
        have HO2 := Lib.hid (own_below HOW.out hb2)
        have HB2 := Lib.hid (bstep HB.out hb2)
        clear hs hb2 HF HOW HB
        obtain ⟨ws, hws⟩ : ∃ ws : List ByteArray, ws = o ++ [word] := ⟨_, rfl⟩
        have hwN : ws.length = o.length + 1 := by rw [hws, List.length_append]; rfl
        have hmem : word ∈ ws := by rw [hws]; simp
        have hall : ∀ s ∈ ws, s.size ≤ 20 := fun x hx => by
          rw [hws] at hx
          rcases List.mem_append.1 hx with hx | hx
          · have := HS.out x hx; omega
          · rw [List.mem_singleton] at hx; subst hx; omega
        have hN1 : 0 < ws.length := by omega
        have hN2 : ws.length ≤ 21 := by omega
        have HWS := Lib.hid hws
        have HWN := Lib.hid hwN
        have HM := Lib.hid hmem
        have HAL := Lib.hid hall
        clear hws hwN hmem hall
        go_wp2_with (at_builtin; go_loud (refine wpList_appN rfl (.tmp 37) (.tmp 39) _ rfl w.heap.size 9 _ 1 16 Try.underlying24 gstr_info rfl (by decide) (.slice Ao o.length co) o.length _ rfl HO2.out [.string word] rfl _ rfl (by simp) rfl (by simp [Value.oneCell']) (by omega) (by omega) HB2.out.size ?_; intro v8 w8 ho8 hB8 hg8; have HW := Lib.hid (show w8.ownsRow w.heap.size 9 1 v8 ws.length (ws.map .string) by rw [HWN.out, HWS.out, List.map_append]; exact ho8); have HB8 := Lib.hid (hB8 _ (Nat.le_refl _) _ HB2.out); obtain ⟨A8, c8, rfl, hc81, hc82⟩ := own_slice HW.out; clear ho8 hB8 hg8))
        obtain ⟨n, hn1, hn2, KP⟩ : ∃ n : Nat, 1 ≤ n ∧ n ≤ ws.length ∧ ∀ W, Calls Try.prog 9 #[.int .i64 many, .int .i64 (ws.length : Int)] W fun e w' => e = .returned (.int .i64 ((n : Int) - 1)) ∧ W = w' := by
          have k1 := Int.emod_nonneg many (show (ws.length : Int) ≠ 0 by omega)
          have k2 := Int.emod_lt_of_pos many (show (0 : Int) < ws.length by omega)
          refine ⟨(many % (ws.length : Int)).toNat + 1, by omega, by omega, fun W => ?_⟩
          rw [show ((((many % (ws.length : Int)).toNat + 1 : Nat) : Int) - 1) = many % (ws.length : Int) by omega]
          exact picked_any many _ W hmy (by omega) (by omega)
        have KP := Lib.hid KP
        have e1 : 1 + ((n : Int) - 1) = (n : Int) := by omega
        have HRW := Lib.hid (Reads.of_own HW.out)
        clear HO2 HB2 HS HL ho1 ho2 hol21 HWS HWN
        refine (KP.out _).mono ?_
        rintro e w' ⟨rfl, rfl⟩
        go_wp2_with (at_builtin; go_loud (refine wpList_copy rfl (.tmp 47) _ rfl 9 _ 1 16 Try.underlying24 gstr_info rfl (by decide) A8 ws.length _ (ws.map .string) rfl HRW.out (fun u hu => by obtain ⟨x, _, rfl⟩ := List.mem_map.1 hu; rfl) (by omega) (by omega) ?_; intro v9 w9 ho9 hb9; have HO9 := Lib.hid ho9; have HB9 := Lib.hid hb9; clear ho9 hb9))
        refine (guess_any v9 ws word n w9 (SRow.of_own HO9.out) HAL.out (by omega) (by omega) hN1 hn2).mono ?_
        rintro e w10 ⟨g, c10, l, rfl, hsf, hg, hown, hb10⟩
        have HSF := Lib.hid hsf
        have hll := sf_len hsf
        have HW10 := Lib.hid (own_below (own_below HW.out HB9.out) hb10)
        have HB10 := Lib.hid (bstep (bstep HB8.out HB9.out) hb10)
        have HG10 := Lib.hid hown
        have hs0 := sf_first hsf (by omega) HM.out
        have HS0 := Lib.hid hs0
        obtain ⟨b, off, hA8, hbb, _⟩ := SRow.at_ (Reads.of_own HW10.out) hN1
        subst hA8
        clear hsf hg hown hb10 HRW HO9 HB9 HW HB8 KP e1 hs0
        have l0 : (l[0]'(by omega)).val < ws.length := (l[0]'(by omega)).isLt
        have gc0 : w10.cell? ⟨g, 0, none⟩ = some (.int .i64 (((l[0]'(by omega)).val : Nat) : Int)) := by
          have h9 := HG10.out.cellAt 0 (by omega)
          rw [List.getElem?_map, List.getElem?_eq_getElem (show 0 < l.length by omega)] at h9
          exact h9
        have wc0 : w10.cell? ⟨b, off + (l[0]'(by omega)).val, none⟩ = some (.string word) := by
          obtain ⟨b', off', he, _, h9⟩ := SRow.at_ (Reads.of_own HW10.out) l0
          injection he with he
          injection he with e7 e8
          subst e7; subst e8
          rw [HS0.out] at h9
          exact h9
        clear HS0
        generalize (l[0]'(by omega)).val = f0 at *
        have hf0 : (0 : Int) ≤ (f0 : Int) := by omega
        have hf1 : (f0 : Int) < (ws.length : Int) := by omega
        have hf2 : ¬ (f0 : Int) < 0 := by omega
        have hf3 : decide (ws.length ≤ f0) = false := decide_eq_false (by omega)
        have hn0 : (0 : Int) < (n : Int) := by omega
        have hmk : ∀ W : World, (Instr.makeSlice 30 (.int .i64 (ws.length : Int)) (.int .i64 (ws.length : Int))).run Try.prog W = .ok (.slice (some ⟨W.heap.size, 0, none⟩) ws.length ws.length) (W.alloc (.cells (madeCells #[.bool false] ws.length) 4)) :=
          fun W => run_make_row' (P := Try.prog) 30 4 (.bool false) 1 Try.underlying30 gbool_info rfl .i64 .i64 ws.length (by omega) (by omega) W
        go_wp2_with fail
        have hbg' : b < w10.heap.size := block_lt_of_cell wc0
        clear hmk gc0 wc0 hf0 hf1 hf2 hf3
        have hrow0 := World.rowIs_made w10 (.bool false) ws.length 4
        have HBM := Lib.hid ((Below.refl w10.heap.size w10).alloc (Nat.le_refl _) (.cells (madeCells #[.bool false] ws.length) 4))
        have hgg := (HG10.out.lt g rfl).2
        go_loopw [14, 15] (fun vl vi wr => ∃ i : Nat, vi = .int .i64 i ∧ i ≤ n ∧ vl = .int .i64 ((lastF l word i : Nat) : Int) ∧ wr.rowIs w10.heap.size 4 ws.length (fun j => .bool (toldF l i j)) ∧ Below w10.heap.size w10 wr) (fun _ vi _ => n - (intOf vi).toNat)
        case atStart => exact ⟨0, rfl, Nat.zero_le _, by rw [lastF_zero]; rfl, hrow0.congr (fun j _ => by simp [toldF]), HBM.out⟩
        case round =>
          clear hrow0 HBM
          obtain ⟨i, rfl, hin, rfl, hrow, hb⟩ := hrel
          by_cases hlt : i < n
          · have hil : i < l.length := by omega
            have fl := (l[i]).isLt
            have c0 : w10.cell? ⟨g, i, none⟩ = some (.int .i64 (((l[i]).val : Nat) : Int)) := by
              have h9 := HG10.out.cellAt i (by omega)
              rw [List.getElem?_map, List.getElem?_eq_getElem hil] at h9
              exact h9
            have c1 : w10.cell? ⟨b, off + (l[i]).val, none⟩ = some (.string ws[(l[i]).val]) := by
              obtain ⟨b', off', he, _, h9⟩ := SRow.at_ (Reads.of_own HW10.out) fl
              injection he with he
              injection he with e7 e8
              subst e7; subst e8
              exact h9
            have ht := told_new HSF.out i hil
            have HTS := Lib.hid (told_succ i hil)
            have hle := last_le HSF.out i hil
            have HLS := Lib.hid (lastF_succ (word := word) i hil)
            have hsz := HAL.out ws[(l[i]).val] (List.getElem_mem fl)
            have hff : ∀ V, Calls Try.prog 11 #[.string ws[(l[i]).val], .string word] V fun e w' => e = .returned (.int .i64 ((gF ws word l[i] : Nat) : Int)) ∧ Below V.heap.size V w' := fun V => farFrom_any _ word V hsz (by omega)
            have FF := Lib.hid hff
            clear hff hsz
            generalize gF ws word l[i] = fv at *
            generalize ws[(l[i]).val] = sk at *
            generalize (l[i]).val = f at *
            generalize lastF l word i = la at *
            have x0 : wr.cell? ⟨g, i, none⟩ = some (.int .i64 (f : Int)) := (hb.cell (p := ⟨g, i, none⟩) hgg).trans c0
            have x1 : wr.cell? ⟨b, off + f, none⟩ = some (.string sk) := (hb.cell (p := ⟨b, off + f, none⟩) hbg').trans c1
            have hcs := hrow.cell (i := f) fl
            rw [ht] at hcs
            have hi0 : (0 : Int) ≤ (i : Int) := by omega
            have hi1 : (i : Int) < (n : Int) := by omega
            have hf0 : (0 : Int) ≤ (f : Int) := by omega
            have hf1 : (f : Int) < (ws.length : Int) := by omega
            have hf2 : ¬ (f : Int) < 0 := by omega
            have hf3 : decide (ws.length ≤ f) = false := decide_eq_false (by omega)
            have hfl : decide (fv < la) = false := decide_eq_false (by omega)
            have HB := Lib.hid hb
            have HROW := Lib.hid hrow
            have hbsz := hb.size
            clear hb hrow c0 c1 ht
            go_wp2_with fail
            refine (FF.out _).mono ?_
            rintro e w11 ⟨rfl, hb11⟩
            have hrow11 := rowIs_later HROW.out hb11
            have h11 := bstep HB.out hb11
            have z0 : w11.cell? ⟨g, i, none⟩ = some (.int .i64 (f : Int)) := (hb11.cell (p := ⟨g, i, none⟩) (by show g < _; omega)).trans x0
            have z1 : w11.cell? ⟨b, off + f, none⟩ = some (.string sk) := (hb11.cell (p := ⟨b, off + f, none⟩) (by show b < _; omega)).trans x1
            have hcs := hrow11.cell (i := f) fl
            have hfs := hrow11.frozen f
            have HROW2 := Lib.hid (hrow11.set f (.bool true))
            have HB2 := Lib.hid (h11.setCell (p := ⟨w10.heap.size, f, none⟩) (Nat.le_refl _) (.bool true))
            have s0 : (w11.setCell ⟨w10.heap.size, f, none⟩ (.bool true)).cell? ⟨g, i, none⟩ = some (.int .i64 (f : Int)) := (World.cell?_setCell_other _ _ _ _ (fun e => by injection e with e; omega)).trans z0
            have s1 : (w11.setCell ⟨w10.heap.size, f, none⟩ (.bool true)).cell? ⟨b, off + f, none⟩ = some (.string sk) := (World.cell?_setCell_other _ _ _ _ (fun e => by injection e with e; omega)).trans z1
            clear hb11 hrow11 h11 x0 x1 HROW HB
            go_wp2_with fail
            refine (FF.out _).mono ?_
            rintro e w12 ⟨rfl, hb12⟩
            have HROW3 := Lib.hid (rowIs_later HROW2.out hb12)
            have HB3 := Lib.hid (bstep HB2.out hb12)
            clear hb12 s0 s1 z0 z1 HROW2 HB2
            go_wp2_with fail
            refine ⟨⟨i + 1, by go_num, by omega, by rw [HLS.out], HROW3.out.congr (fun j _ => ?_), HB3.out⟩, by simp [intOf]; omega⟩
            rw [HTS.out]
            by_cases e : j = f
            · subst e; simp
            · rw [if_neg e]
              have : (f == j) = false := by rw [beq_eq_false_iff_ne]; exact fun h => e h.symm
              rw [this, Bool.or_false]
          · obtain rfl : i = n := by omega
            have HROW := Lib.hid hrow
            have HB := Lib.hid hb
            have hbsz := hb.size
            have hlast : lastF l word i = gF ws word (l[i - 1]'(by omega)) := by
              have h9 := lastF_succ (word := word) (l := l) (i - 1) (by omega)
              rw [show i - 1 + 1 = i by omega] at h9
              exact h9
            have HTN := Lib.hid (fun j hj ht => told_not HSF.out i (by omega) (by omega) j hj ht)
            have HLA := Lib.hid hlast
            clear hrow hb hlast
            go_wp2_with fail
            go_loopw [16] (fun vk wq => ∃ k : Nat, vk = .int .i64 k ∧ k ≤ ws.length ∧ Below wr.heap.size wr wq) (fun vk _ => ws.length - (intOf vk).toNat)
            case atStart => exact ⟨0, rfl, Nat.zero_le _, Below.refl _ _⟩
            case round =>
              rename_i wo _
              obtain ⟨k, rfl, hk, hb⟩ := hrel
              by_cases hkl : k < ws.length
              · have hrow := rowIs_later HROW.out hb
                have hcs := hrow.cell (i := k) hkl
                have c1 : w10.cell? ⟨b, off + k, none⟩ = some (.string ws[k]) := by
                  obtain ⟨b', off', he, _, h9⟩ := SRow.at_ (Reads.of_own HW10.out) hkl
                  injection he with he
                  injection he with e7 e8
                  subst e7; subst e8
                  exact h9
                have x1 := ((bstep HB.out hb).cell (p := ⟨b, off + k, none⟩) hbg').trans c1
                have hk0 : (0 : Int) ≤ (k : Int) := by omega
                have hk1 : (k : Int) < (ws.length : Int) := by omega
                have HBQ := Lib.hid hb
                have hsz := HAL.out ws[k] (List.getElem_mem hkl)
                have FF := Lib.hid (fun V => farFrom_any ws[k] word V hsz (by omega))
                cases htd : toldF l i k
                · have hnl := HTN.out k hkl htd
                  rw [← HLA.out] at hnl
                  rw [htd] at hcs
                  have hfl : decide (Lv.lev ws[k].data.toList word.data.toList < lastF l word i) = false := decide_eq_false (by omega)
                  clear hb hrow c1 htd hnl hsz
                  generalize Lv.lev ws[k].data.toList word.data.toList = fv at *
                  generalize lastF l word i = la at *
                  generalize ws[k] = sk at *
                  go_wp2_with fail
                  refine (FF.out _).mono ?_
                  rintro e w12 ⟨rfl, hb12⟩
                  have HB12 := Lib.hid (bstep HBQ.out hb12)
                  clear hb12
                  go_wp2_with fail
                  refine ⟨⟨k + 1, by go_num, by omega, HB12.out⟩, by simp [intOf]; omega⟩
                · rw [htd] at hcs
                  clear hb hrow c1 htd hsz
                  go_wp2_with fail
                  refine ⟨⟨k + 1, by go_num, by omega, HBQ.out⟩, by simp [intOf]; omega⟩
              · obtain rfl : k = ws.length := by omega
                go_wp2_with fail
                go_ret
                exact ⟨rfl, bstep (bstep HB10.out HB.out) hb⟩
end Go.Proofs.Ytbnlapickajiaaa
