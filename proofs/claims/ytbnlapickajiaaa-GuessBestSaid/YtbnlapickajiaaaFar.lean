/-
  The walks of fuzzy.far, fuzzy.Far: the Levenshtein distance. far at every two strings of at most 1000 bytes; Far where both have at most MaxFind bytes. Nothing that was there is changed.
-/
import Derived.Test.YtbnlapickajiaaaPick
import Derived.Test.YtbnlapickajiaaaLev
import Derived.Handy
import Derived.Deep.OwnRows
import Derived.BigQuiet
import Derived.Deep.QuietTactic
namespace Go.Proofs.Ytbnlapickajiaaa
open Go.RowKit
set_option linter.unusedVariables false

/-- The distance of the first i bytes of a and the first k bytes of b. -/
def lvD (a b : List UInt8) (i k : Nat) : Nat := Lv.lev (a.take i).reverse (b.take k).reverse
theorem lvD_left (a b : List UInt8) (i : Nat) (h : i ≤ a.length) : lvD a b i 0 = i := by simp [lvD, Lv.lev_nil_right]; omega
theorem lvD_right (a b : List UInt8) (k : Nat) (h : k ≤ b.length) : lvD a b 0 k = k := by simp [lvD, Lv.lev_nil]; omega
theorem take_rev (a : List UInt8) (i : Nat) (h : i < a.length) : (a.take (i + 1)).reverse = a[i] :: (a.take i).reverse := by
  rw [List.take_succ_eq_append_getElem h, List.reverse_append]; rfl
theorem lvD_step (a b : List UInt8) (i k : Nat) (hi : i < a.length) (hk : k < b.length) :
    lvD a b (i + 1) (k + 1) = min (lvD a b i k + Lv.neq a[i] b[k]) (min (lvD a b (i + 1) k + 1) (lvD a b i (k + 1) + 1)) := by
  unfold lvD; rw [take_rev a i hi, take_rev b k hk, Lv.lev_cons]
theorem lvD_all (a b : List UInt8) : lvD a b a.length b.length = Lv.lev a b := by unfold lvD; rw [List.take_length, List.take_length, Lv.lev_reverse]
theorem lvD_le (a b : List UInt8) (i k : Nat) : lvD a b i k ≤ max a.length b.length := by
  have := Lv.lev_le (a.take i).reverse (b.take k).reverse
  simp only [List.length_reverse, List.length_take] at this
  unfold lvD; omega


set_option maxRecDepth 100000 in
set_option maxHeartbeats 2000000 in
theorem far_any (a b : ByteArray) (w : World) (ha : a.size ≤ 1000) (hb : b.size ≤ 1000) :
    Calls Try.prog 18 #[.string a, .string b] w fun e w' => e = .returned (.int .i64 (Lv.lev a.data.toList b.data.toList)) ∧ Below w.heap.size w w' := by
  have hmk : ∀ W : World, (Instr.makeSlice 23 (.int .i64 ((b.size : Int) + 1)) (.int .i64 ((b.size : Int) + 1))).run Try.prog W = .ok (.slice (some ⟨W.heap.size, 0, none⟩) (b.size + 1) (b.size + 1)) (W.alloc (.cells (madeCells #[.int .i64 0] (b.size + 1)) 3)) :=
    fun W => run_make_row' (P := Try.prog) 23 3 (.int .i64 0) 8 Try.underlying23 int_info rfl .i64 .i64 (b.size + 1) (by omega) (by omega) W
  go_enter Try.func18, Try.ntmps18
  go_wp2
  clear hmk
  go_loopw [17] (fun i wr => ∃ k : Nat, k ≤ b.size + 1 ∧ i = .int .i64 k ∧ wr.rowIs w.heap.size 3 (b.size + 1) (fun j => .int .i64 (if j < k then (j : Int) else 0)) ∧ Below w.heap.size w wr) (fun i _ => b.size + 1 - (intOf i).toNat)
  case atStart => exact ⟨0, by omega, rfl, World.rowIs_made w _ _ _, (Below.refl _ _).alloc (Nat.le_refl _) _⟩
  case round =>
    obtain ⟨k, hk, rfl, hrow, hbel⟩ := hrel
    by_cases hlt : k < b.size + 1
    · have hc := hrow.cell hlt
      have hf := hrow.frozen k
      go_wp2
      go_roundw
      case rel =>
        refine ⟨k + 1, by omega, by go_num, (hrow.set k _).congr (fun j hj => ?_), hbel.setCell (Nat.le_refl _) _⟩
        by_cases e : j = k
        · subst e; simp
        · rw [if_neg e]; congr 1; by_cases e2 : j < k
          · rw [if_pos e2, if_pos (by omega)]
          · rw [if_neg e2, if_neg (by omega)]
      case measure => simp [intOf]; omega
    · have hrow1 : wr.rowIs w.heap.size 3 (b.size + 1) (fun j => .int .i64 (lvD a.data.toList b.data.toList 0 j)) := hrow.congr (fun j hj => by rw [if_pos (by omega), lvD_right _ _ _ (by simp; omega)])
      clear hrow
      go_wp2
      obtain ⟨wo, rfl⟩ : ∃ wo : World, wo = wr := ⟨_, rfl⟩
      go_loopw [27] (fun i wr => ∃ n : Nat, n ≤ a.size ∧ i = .int .i64 n ∧ wr.rowIs w.heap.size 3 (b.size + 1) (fun j => .int .i64 (lvD a.data.toList b.data.toList n j)) ∧ Below w.heap.size w wr) (fun i _ => a.size - (intOf i).toNat)
      case atStart => exact ⟨0, by omega, rfl, hrow1, hbel⟩
      case round =>
        clear hbel hrow1
        obtain ⟨n, hn, rfl, hrow, hbel⟩ := hrel
        by_cases hlt2 : n < a.size
        · have hc := hrow.cell (i := 0) (by omega)
          have hf := hrow.frozen 0
          have hrow2 : (wr.setCell ⟨w.heap.size, 0, none⟩ (.int .i64 ((n : Int) + 1))).rowIs w.heap.size 3 (b.size + 1) (fun j => .int .i64 (if j ≤ 0 then lvD a.data.toList b.data.toList (n + 1) j else lvD a.data.toList b.data.toList n j)) := by
            refine (hrow.set 0 _).congr (fun j hj => ?_)
            by_cases e : j = 0
            · subst e; simp; rw [lvD_left _ _ _ (by simp; omega)]; simp
            · rw [if_neg e, if_neg (by omega)]
          have hbel2 := hbel.setCell (p := ⟨w.heap.size, 0, none⟩) (Nat.le_refl _) (.int .i64 ((n : Int) + 1))
          clear hrow
          go_wp2
          clear hc hf
          obtain ⟨wo, rfl⟩ : ∃ wo : World, wo = wr := ⟨_, rfl⟩
          go_loopw [8, 39] (fun co i wq => ∃ k : Nat, k ≤ b.size ∧ i = .int .i64 k ∧ co = .int .i64 (lvD a.data.toList b.data.toList n k) ∧ wq.rowIs w.heap.size 3 (b.size + 1) (fun j => .int .i64 (if j ≤ k then lvD a.data.toList b.data.toList (n + 1) j else lvD a.data.toList b.data.toList n j)) ∧ Below w.heap.size w wq) (fun _ i _ => b.size - (intOf i).toNat)
          case atStart => exact ⟨0, by omega, rfl, rfl, hrow2, hbel2⟩
          case round =>
            clear hbel hrow2 hbel2
            obtain ⟨k, hk, rfl, rfl, hrow, hbel⟩ := hrel
            by_cases hlt3 : k < b.size
            · have hc1 : wr.cell? ⟨w.heap.size, k, none⟩ = some (.int .i64 (lvD a.data.toList b.data.toList (n + 1) k)) := by
                rw [hrow.cell (by omega), if_pos (Nat.le_refl _)]
              have hc2 : wr.cell? ⟨w.heap.size, k + 1, none⟩ = some (.int .i64 (lvD a.data.toList b.data.toList n (k + 1))) := by
                rw [hrow.cell (by omega), if_neg (by omega)]
              have hf := hrow.frozen (k + 1)
              have hst := lvD_step a.data.toList b.data.toList n k (by simpa using hlt2) (by simpa using hlt3)
              have hb0 := lvD_le a.data.toList b.data.toList n k
              have hb1 := lvD_le a.data.toList b.data.toList (n + 1) k
              have hb2 := lvD_le a.data.toList b.data.toList n (k + 1)
              have hla : a.data.toList.length = a.size := by simp
              have hlb : b.data.toList.length = b.size := by simp
              rw [hla, hlb] at hb0 hb1 hb2
              have hm : max a.size b.size ≤ 1000 := by omega
              replace hb0 := Nat.le_trans hb0 hm
              replace hb1 := Nat.le_trans hb1 hm
              replace hb2 := Nat.le_trans hb2 hm
              clear hla hlb hm
              have ea : a.data.toList[n]'(by simpa using hlt2) = a[n] := rfl
              have eb : b.data.toList[k]'(by simpa using hlt3) = b[k] := rfl
              rw [ea, eb] at hst
              clear ea eb
              have H1 := Lib.hid hst
              have H2 := Lib.hid hrow
              clear hst hrow
              generalize lvD a.data.toList b.data.toList n k = p0 at *
              generalize lvD a.data.toList b.data.toList (n + 1) k = p1 at *
              generalize hp2 : lvD a.data.toList b.data.toList n (k + 1) = p2 at *
              have H4 := Lib.hid hp2
              clear hp2
              have hba := byte_lt a[n]
              have hbb := byte_lt b[k]
              by_cases hne : a[n] = b[k]
              · have H3 := Lib.hid hne
                have hq : ((a[n].toNat : Int) == (b[k].toNat : Int)) = true := by rw [hne]; simp
                have hq2 : ((a[n].toNat : Int) != (b[k].toNat : Int)) = false := by rw [hne]; simp
                have H5 := Lib.hid (show Lv.neq a[n] b[k] = 0 by unfold Lv.neq; rw [if_pos hne])
                clear hne
                go_wp2
                go_region
                go_wp2
                go_region
                go_wp2
                go_roundw
                case rel =>
                  refine ⟨k + 1, by omega, by go_num, by rw [H4.out], World.rowIs.congr ((H2.out.set (k + 1) _).drew.drew) (fun j hj => ?_), (hbel.setCell (Nat.le_refl _) _).drew.drew⟩
                  by_cases e : j = k + 1
                  · subst e
                    rw [if_pos rfl, if_pos (Nat.le_refl _), H1.out, H5.out]
                    congr 1
                    repeat' split
                    all_goals omega
                  · rw [if_neg e]
                    by_cases e2 : j ≤ k
                    · rw [if_pos e2, if_pos (by omega)]
                    · rw [if_neg e2, if_neg (by omega)]
                case measure => simp [intOf]; omega
              · have H3 := Lib.hid hne
                have hq : ((a[n].toNat : Int) == (b[k].toNat : Int)) = false := by rw [beq_eq_false_iff_ne]; intro e; exact hne (UInt8.toNat_inj.1 (by omega))
                have hq2 : ((a[n].toNat : Int) != (b[k].toNat : Int)) = true := by rw [bne_iff_ne]; intro e; exact hne (UInt8.toNat_inj.1 (by omega))
                have H5 := Lib.hid (show Lv.neq a[n] b[k] = 1 by unfold Lv.neq; rw [if_neg hne])
                clear hne
                go_wp2
                go_region
                go_wp2
                go_region
                go_wp2
                go_roundw
                case rel =>
                  refine ⟨k + 1, by omega, by go_num, by rw [H4.out], World.rowIs.congr ((H2.out.set (k + 1) _).drew.drew) (fun j hj => ?_), (hbel.setCell (Nat.le_refl _) _).drew.drew⟩
                  by_cases e : j = k + 1
                  · subst e
                    rw [if_pos rfl, if_pos (Nat.le_refl _), H1.out, H5.out]
                    congr 1
                    repeat' split
                    all_goals omega
                  · rw [if_neg e]
                    by_cases e2 : j ≤ k
                    · rw [if_pos e2, if_pos (by omega)]
                    · rw [if_neg e2, if_neg (by omega)]
                case measure => simp [intOf]; omega
            · have hrow3 : wr.rowIs w.heap.size 3 (b.size + 1) (fun j => .int .i64 (lvD a.data.toList b.data.toList (n + 1) j)) := hrow.congr (fun j hj => by rw [if_pos (by omega)])
              clear hrow
              go_wp2
              go_roundw
              case rel => exact ⟨n + 1, by omega, by go_num, hrow3, hbel⟩
              case measure => simp [intOf]; omega
        · have hc := hrow.cell (i := b.size) (by omega)
          have H1 := Lib.hid (show lvD a.data.toList b.data.toList n b.size = Lv.lev a.data.toList b.data.toList by
            have e1 : a.data.toList.length = a.size := by simp
            have e2 : b.data.toList.length = b.size := by simp
            rw [← lvD_all, e1, e2]; congr 1; omega)
          clear hrow
          go_wp2
          go_ret
          exact ⟨ret_int (by rw [H1.out]), hbel⟩

set_option maxHeartbeats 1000000 in
theorem indexLong (v : Value) (ss : List ByteArray) (w : World) (hr : SRow w v ss) (hall : ∀ s ∈ ss, s.size ≤ 20) :
    Calls Try.prog 45 #[v, .func (.func 34) #[] #[]] w fun e w' => e = .returned (.int .i64 (-1)) ∧ w = w' := by
  obtain ⟨A, c, rfl, hl, hc, hrd⟩ := hr
  unfold maxLen at hc
  go_enter Try.func45, Try.ntmps45
  go_wp2
  go_loop [8] (fun i => ∃ k : Nat, k ≤ ss.length ∧ i = .int .i64 k) (fun i => ss.length - (intOf i).toNat)
  case atStart => exact ⟨0, Nat.zero_le _, rfl⟩
  case round =>
    obtain ⟨k, hk, rfl⟩ := hrel
    by_cases hlt : k < ss.length
    · obtain ⟨b0, o0, rfl, _, hcell⟩ := SRow.at_ hrd hlt
      have hsz := hall ss[k] (List.getElem_mem hlt)
      generalize ss[k] = s at *
      have hd : decide (20 < (s.size : Int)) = false := by simp; omega
      go_wp2
      go_round
      case rel => exact ⟨k + 1, by omega, by go_num⟩
      case measure => simp [intOf]; omega
    · go_wp2
      go_ret
      exact ⟨rfl, rfl⟩
theorem containsLong (v : Value) (ss : List ByteArray) (w : World) (hr : SRow w v ss) (hall : ∀ s ∈ ss, s.size ≤ 20) :
    Calls Try.prog 33 #[v, .func (.func 34) #[] #[]] w fun e w' => e = .returned (.bool false) ∧ w = w' := by
  go_enter Try.func33, Try.ntmps33
  go_wp2_with fail
  refine (indexLong v ss _ hr hall).mono ?_
  rintro e w' ⟨rfl, rfl⟩
  go_wp2_with fail
  go_ret
  exact ⟨rfl, rfl⟩
theorem long_any (v : Value) (ss : List ByteArray) (w : World) (hr : SRow w v ss) (hall : ∀ s ∈ ss, s.size ≤ 20) :
    Calls Try.prog 17 #[v] w fun e w' => e = .returned (.bool false) ∧ w = w' := by
  go_enter Try.func17, Try.ntmps17
  go_wp2_with fail
  refine (containsLong v ss _ hr hall).mono ?_
  rintro e w' ⟨rfl, rfl⟩
  go_wp2_with fail
  go_ret
  exact ⟨rfl, rfl⟩

set_option maxRecDepth 100000 in
set_option maxHeartbeats 1000000 in
theorem Far_any (a b : ByteArray) (w : World) (ha : a.size ≤ 20) (hb : b.size ≤ 20) :
    Calls Try.prog 24 #[.string a, .string b] w fun e w' => e = .returned (.tuple #[.int .i64 (Lv.lev a.data.toList b.data.toList), .int .i64 0]) ∧ Below w.heap.size w w' := by
  have hl := SRow.lit w 9 [a, b] (show 2 ≤ maxLen by decide)
  go_enter Try.func24, Try.ntmps24
  go_wp2_with fail
  refine (long_any _ [a, b] _ hl (by simp; omega)).mono ?_
  rintro e w' ⟨rfl, rfl⟩
  go_wp2_with fail
  refine (far_any a b _ (by omega) (by omega)).mono ?_
  rintro e w1 ⟨rfl, hb1⟩
  go_wp2_with fail
  go_ret2
  exact ⟨rfl, bstep ((Below.refl _ _).alloc (Nat.le_refl _) _) hb1⟩
end Go.Proofs.Ytbnlapickajiaaa
