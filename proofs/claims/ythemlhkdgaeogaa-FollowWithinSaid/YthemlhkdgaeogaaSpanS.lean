/-
  The walks of SetOf and within.
-/
import Derived.Test.YthemlhkdgaeogaaSpanM
import Derived.Test.YthemlhkdgaeogaaText
namespace Go.Proofs.Ythemlhkdgaeogaa
open Go.RowKit
set_option linter.unusedVariables false
set_option linter.unusedSimpArgs false

theorem picked_nat (a n : Int) (ha : -9223372036854775808 ≤ a ∧ a ≤ 9223372036854775807) (hn : 0 < n) (hn2 : n ≤ 4611686018427387904) : ∃ q : Nat, (q : Int) < n ∧ ∀ W, Calls Try.prog 19 #[.int .i64 a, .int .i64 n] W fun e w' => e = .returned (.int .i64 (q : Int)) ∧ W = w' := by
  have h1 := Int.emod_nonneg a (show n ≠ 0 by omega)
  have h2 := Int.emod_lt_of_pos a hn
  refine ⟨(a % n).toNat, by omega, fun W => ?_⟩
  have h := picked_any a n W ha hn hn2
  have e : ((a % n).toNat : Int) = a % n := by omega
  rwa [e]
def SetPost (N n : Nat) (w : World) (e : Ending) (w' : World) : Prop := ∃ v o, e = .returned v ∧ w'.ownsRow w.heap.size 73 2 v o.length (cellsOf spc o) ∧ Nrm 0 o ∧ (∀ x ∈ o, x.hi ≤ n) ∧ o.length ≤ N ∧ Below w.heap.size w w'
set_option maxRecDepth 100000 in
set_option maxHeartbeats 4000000 in
theorem setOf_any (v : Value) (xs : List Int) (N n : Nat) (w : World) (h : Row .i64 w v xs) (hN : N ≤ 40) (hn : n ≤ 600) :
    Calls Try.prog 13 #[v, .int .i64 (N : Int), .int .i64 (n : Int)] w (SetPost N n w) := by
  have hbd := h.bd
  obtain ⟨A, c, rfl, hl, hc, hw, hrd⟩ := h
  unfold maxLen at hc
  have HRD := Lib.hid hrd
  have HBD := Lib.hid hbd
  clear hrd hbd hw
  go_enter Try.func13, Try.ntmps13
  go_wp2_with fail
  go_loopw [7, 8, 9] (fun vo va vi wr => ∃ (j at_ : Nat) (o : List Sp), vi = .int .i64 ((2 * j : Nat) : Int) ∧ va = .int .i64 (at_ : Int) ∧ Hid (at_ = top 0 o) ∧ at_ ≤ n + 1 ∧ Hid (o.length = j) ∧ j ≤ N ∧ Hid (Nrm 0 o ∧ ∀ x ∈ o, x.hi ≤ n) ∧ wr.ownsRow w.heap.size 73 2 vo j (cellsOf spc o) ∧ Below w.heap.size w wr) (fun _ _ vi _ => xs.length - (intOf vi).toNat)
  case atStart => exact ⟨0, 0, [], rfl, rfl, Lib.hid rfl, Nat.zero_le _, Lib.hid rfl, Nat.zero_le _, Lib.hid ⟨trivial, by simp⟩, World.ownsRow_nil _ _ _ _, Below.refl _ _⟩
  case round =>
    obtain ⟨j, at_, o, rfl, rfl, HT, hat, HL, hjN, HO, hown, hb⟩ := hrel
    have hbs := hb.size
    obtain ⟨Ao, co, rfl, ho1, ho2⟩ := own_slice hown
    generalize hi : 2 * j = i at *
    have hi80 : i ≤ 80 := by omega
    have HI := Lib.hid hi
    clear hi
    by_cases hlt : i + 1 < xs.length
    · by_cases hjn : j < N
      · obtain ⟨b, off, rfl, hbb, x0⟩ := Row.at_ (HRD.out.below hb) (show i < xs.length by omega)
        obtain ⟨b', off', hA, hbb', x1⟩ := Row.at_ (HRD.out.below hb) hlt
        injection hA with hA
        injection hA with hA1 hA2
        subst hA1
        subst hA2
        obtain ⟨p, hp, KP⟩ := picked_nat (xs.getD i 0) 9 (HBD.out i) (by omega) (by omega)
        obtain ⟨q, hq, KQ⟩ := picked_nat (xs.getD (i + 1) 0) 9 (HBD.out (i + 1)) (by omega) (by omega)
        have KP := Lib.hid KP
        have KQ := Lib.hid KQ
        generalize xs.getD i 0 = y0 at *
        generalize xs.getD (i + 1) 0 = y1 at *
        have hlt1 : ((i : Int) + 1) < (xs.length : Int) := by omega
        have hi0 : (0 : Int) ≤ (i : Int) := by omega
        have HOW := Lib.hid hown
        have HB := Lib.hid hb
        clear hown hb
        by_cases hbig : n < at_ + p + 1 + q
        · have hbi : (n : Int) < (at_ : Int) + (p : Int) + 1 + (q : Int) := by omega
          go_wp2_with fail
          refine (KP.out _).mono ?_
          rintro e w' ⟨rfl, rfl⟩
          go_wp2_with fail
          refine (KQ.out _).mono ?_
          rintro e w' ⟨rfl, rfl⟩
          go_wp2_with fail
          go_ret
          exact ⟨_, o, rfl, by rw [HL.out]; exact HOW.out, HO.out.1, HO.out.2, by rw [HL.out]; exact hjN, HB.out⟩
        · have hbi : ¬ (n : Int) < (at_ : Int) + (p : Int) + 1 + (q : Int) := by omega
          have HLIT : Hid (spc ⟨at_ + p, at_ + p + 1 + q⟩ = [.int .i64 ((at_ : Int) + (p : Int)), .int .i64 ((at_ : Int) + (p : Int) + 1 + (q : Int))]) := Lib.hid rfl
          go_wp2_with fail
          refine (KP.out _).mono ?_
          rintro e w' ⟨rfl, rfl⟩
          go_wp2_with fail
          refine (KQ.out _).mono ?_
          rintro e w' ⟨rfl, rfl⟩
          go_wp2_with (at_builtin; go_loud (refine wpList_appN rfl (.tmp 44) (.tmp 48) _ rfl w.heap.size 73 _ 2 16 Try.underlying26 span_info rfl (by decide) (.slice Ao j co) j _ rfl HOW.out [.int .i64 ((at_ : Int) + (p : Int)), .int .i64 ((at_ : Int) + (p : Int) + 1 + (q : Int))] rfl _ rfl (by simp) rfl (by simp [Value.oneCell']) (by omega) (by omega) hbs ?_; intro v8 w8 ho8 hB8 hg8; have HO8 := Lib.hid ho8; have HB8 := Lib.hid (hB8 _ (Nat.le_refl _) _ HB.out); clear ho8 hB8 hg8))
          go_roundw
          case rel =>
            refine ⟨j + 1, at_ + p + 1 + q + 1, o ++ [⟨at_ + p, at_ + p + 1 + q⟩], ?_, by go_num, Lib.hid ?_, by omega, Lib.hid ?_, by omega, Lib.hid ⟨?_, ?_⟩, ?_, HB8.out⟩
            · congr 1; have := HI.out; omega
            · rw [top_append]; rfl
            · rw [List.length_append, HL.out]; rfl
            · rw [nrm_append]
              refine ⟨HO.out.1, ?_, ?_, trivial⟩
              · show top 0 o ≤ at_ + p; rw [← HT.out]; omega
              · show at_ + p < at_ + p + 1 + q; omega
            · intro x hx
              rcases List.mem_append.1 hx with hx | hx
              · exact HO.out.2 x hx
              · rw [List.mem_singleton] at hx
                subst hx
                show at_ + p + 1 + q ≤ n; omega
            · rw [cellsOf_snoc, HLIT.out]; exact HO8.out
          case measure => simp [intOf]; omega
      · have HOW := Lib.hid hown
        have HB := Lib.hid hb
        clear hown hb
        go_wp2_with fail
        go_ret
        exact ⟨_, o, rfl, by rw [HL.out]; exact HOW.out, HO.out.1, HO.out.2, by rw [HL.out]; exact hjN, HB.out⟩
    · have hlti : ¬ (i : Int) + 1 < (xs.length : Int) := by omega
      have HOW := Lib.hid hown
      have HB := Lib.hid hb
      clear hown hb
      go_wp2_with fail
      go_ret
      exact ⟨_, o, rfl, by rw [HL.out]; exact HOW.out, HO.out.1, HO.out.2, by rw [HL.out]; exact hjN, HB.out⟩
theorem bool_info : (Try.prog.info? 4).map (fun i => (i.zero, i.size, i.bytes)) = some (some (.bool false), 1, 1) := by kernel_rfl
def WithinPost (n : Nat) (l : List Sp) (w : World) (e : Ending) (w' : World) : Prop := ∃ g, e = .returned (.slice (some ⟨g, 0, none⟩) (n + 1) (n + 1)) ∧ w.heap.size ≤ g ∧ w'.rowIs g 4 (n + 1) (fun j => .bool (inS l j)) ∧ Below w.heap.size w w'
set_option maxRecDepth 100000 in
set_option maxHeartbeats 4000000 in
theorem within_any (n : Nat) (v : Value) (l : List Sp) (w : World) (h : CRow 2 spc w v l) (hl : l.length ≤ 40) (hn : n ≤ 600) (hN : Nrm 0 l) (hhi : ∀ x ∈ l, x.hi ≤ n) :
    Calls Try.prog 17 #[.int .i64 (n : Int), v] w (WithinPost n l w) := by
  have HM := Lib.hid (spansMay_any n v l w h hl hn hN hhi)
  have HHI := Lib.hid hhi
  have HLT := Lib.hid (nrm_lt l 0 hN)
  obtain ⟨A, c, rfl, hc1, hc2, hrd⟩ := h
  unfold maxLen at hc2
  have HRD := Lib.hid hrd
  have hmk : ∀ W : World, (Instr.makeSlice 37 (.int .i64 ((n : Int) + 1)) (.int .i64 ((n : Int) + 1))).run Try.prog W = .ok (.slice (some ⟨W.heap.size, 0, none⟩) (n + 1) (n + 1)) (W.alloc (.cells (madeCells #[.bool false] (n + 1)) 4)) :=
    fun W => run_make_row' (P := Try.prog) 37 4 (.bool false) 1 Try.underlying37 bool_info rfl .i64 .i64 (n + 1) (by omega) (by omega) W
  clear hrd hN hhi
  go_enter Try.func17, Try.ntmps17
  go_wp2_with fail
  refine HM.out.mono ?_
  rintro e w1 ⟨rfl, hb1⟩
  have HB1 := Lib.hid hb1
  have hs1 := hb1.size
  clear hb1
  go_wp2_with fail
  clear hmk
  have hrow0 := World.rowIs_made w1 (.bool false) (n + 1) 4
  have HB2 := Lib.hid ((HB1.out.alloc hs1 (.cells (madeCells #[.bool false] (n + 1)) 4)))
  go_loopw [6, 7] (fun vi vk wr => ∃ i : Nat, i ≤ l.length ∧ vi = .int .i64 i ∧ wr.rowIs w1.heap.size 4 (n + 1) (fun j => .bool (inS (l.take i) j)) ∧ Below w.heap.size w wr) (fun vi _ _ => l.length - (intOf vi).toNat)
  case atStart => exact ⟨0, Nat.zero_le _, rfl, hrow0.congr (fun j _ => by simp [inS]), HB2.out⟩
  case round =>
    clear hrow0 HB2
    obtain ⟨i, hi, rfl, hrow, hb⟩ := hrel
    by_cases hlt : i < l.length
    · obtain ⟨b, off, rfl, hbb, x0, x1⟩ := CRow.cells2 (HRD.out.below hb) hlt
      have h1 := HLT.out i hlt
      have h2 := HHI.out l[i] (List.getElem_mem hlt)
      have HTK : Hid (∀ j, inS (l.take (i + 1)) j = (inS (l.take i) j || (decide (l[i].lo ≤ j) && decide (j < l[i].hi)))) := Lib.hid (fun j => by rw [List.take_succ_eq_append_getElem hlt, inS_append, inS_cons, inS_nil, Bool.or_false])
      generalize l[i] = x at *
      have HB := Lib.hid hb
      have HROW := Lib.hid hrow
      have X0 := Lib.hid x0
      have X1 := Lib.hid x1
      clear x1 hrow hb
      go_wp2_with fail
      go_loopw [7] (fun vk wq => ∃ k : Nat, vk = .int .i64 k ∧ x.lo ≤ k ∧ k ≤ x.hi ∧ wq.rowIs w1.heap.size 4 (n + 1) (fun j => .bool (inS (l.take i) j || (decide (x.lo ≤ j) && decide (j < k)))) ∧ wq.cell? ⟨b, off + i * 2 + 1, none⟩ = some (.int .i64 (x.hi : Int)) ∧ Below w.heap.size w wq) (fun vk _ => x.hi - (intOf vk).toNat)
      case atStart =>
        refine ⟨x.lo, rfl, Nat.le_refl _, by omega, HROW.out.congr (fun j _ => ?_), X1.out, HB.out⟩
        have : (decide (x.lo ≤ j) && decide (j < x.lo)) = false := by
          by_cases a : x.lo ≤ j
          · have : ¬ j < x.lo := by omega
            simp [this]
          · simp [a]
        rw [this, Bool.or_false]
      case round =>
        obtain ⟨k, rfl, hk1, hk2, hrow, hx1, hb⟩ := hrel
        by_cases hkh : k < x.hi
        · have hcs := hrow.cell (i := k) (by omega)
          have hfs := hrow.frozen k
          have hk0 : (0 : Int) ≤ (k : Int) := by omega
          have hk3 : (k : Int) < (n : Int) + 1 := by omega
          have HROW2 := Lib.hid (hrow.set k (.bool true))
          have HBQ := Lib.hid (hb.setCell (p := ⟨w1.heap.size, k, none⟩) hs1 (.bool true))
          have HX1 : Hid ((wr.setCell ⟨w1.heap.size, k, none⟩ (.bool true)).cell? ⟨b, off + i * 2 + 1, none⟩ = some (.int .i64 (x.hi : Int))) := Lib.hid ((World.cell?_setCell_other _ _ _ _ (fun e => by injection e with e; omega)).trans hx1)
          clear hrow hb
          go_wp2_with fail
          go_roundw
          case rel =>
            refine ⟨k + 1, by go_num, by omega, by omega, HROW2.out.congr (fun j _ => ?_), HX1.out, HBQ.out⟩
            by_cases e : j = k
            · subst e; simp [hk1]
            · have : decide (j < k + 1) = decide (j < k) := by congr 1; rw [eq_iff_iff]; omega
              simp [e, this]
          case measure => simp [intOf]; omega
        · obtain rfl : k = x.hi := by omega
          have HROW2 := Lib.hid hrow
          have HBQ := Lib.hid hb
          clear hrow hb
          go_wp2_with fail
          go_roundw
          case rel => exact ⟨i + 1, by omega, by go_num, HROW2.out.congr (fun j _ => by rw [HTK.out]), HBQ.out⟩
          case measure => simp [intOf]; omega
    · obtain rfl : i = l.length := by omega
      rw [List.take_length] at hrow
      have HROW2 := Lib.hid hrow
      have HBQ := Lib.hid hb
      clear hrow hb
      go_wp2_with fail
      go_ret
      exact ⟨_, rfl, hs1, HROW2.out, HBQ.out⟩
end Go.Proofs.Ythemlhkdgaeogaa
