/-
  The walk of spans.Shifted at sets and edits that may be.
-/
import Derived.Test.YthemlhkdgaeogaaSpanE
import Derived.Test.YthemlhkdgaeogaaShiftP
import Derived.Test.YthemlhkdgaeogaaEd
namespace Go.Proofs.Ythemlhkdgaeogaa
open Go.RowKit Go.Shelf
set_option linter.unusedVariables false
set_option linter.unusedSimpArgs false

def IsShift (l : List Sp) (p c m : Nat) (o : List Sp) : Prop := Nrm 0 o ∧ (∀ j, inS o j = (backAt p c m j l || (decide (p ≤ j) && decide (j < p + m)))) ∧ o.length ≤ l.length + 3
def ShiftPost (l : List Sp) (p c m : Nat) (w : World) (e : Ending) (w' : World) : Prop :=
  ∃ v o, e = .returned v ∧ w'.ownsRow w.heap.size 73 2 v o.length (cellsOf spc o) ∧ IsShift l p c m o ∧ Below w.heap.size w w'
theorem backAt_cut {l r : List Sp} {p c m : Nat} (h : IsCut l ⟨p, p + c⟩ r) (j : Nat) : backAt p c m j r = backAt p c m j l := by
  unfold backAt
  rw [h.2.1, h.2.1]
  split
  · rename_i k
    have : ¬ p ≤ j := by omega
    simp [this]
  · by_cases q : p + m ≤ j
    · have : ¬ j + c - m < p + c := by omega
      simp [this]
    · simp [q]
theorem pieces_small (p c m : Nat) (l : List Sp) (h : ∀ x ∈ l, x.hi ≤ 600) (hx : ∀ x ∈ l, x.lo ≤ x.hi) (hp : p ≤ 600) (hm : m ≤ 8) : Small (pieces p c m l) := by
  intro y hy
  unfold pieces at hy
  rw [List.mem_flatMap] at hy
  obtain ⟨x, hx1, hx2⟩ := hy
  have h1 := h x hx1
  have h2 := hx x hx1
  unfold piece at hx2
  split at hx2
  · rw [List.mem_cons, List.mem_singleton] at hx2
    rcases hx2 with rfl | rfl
    · exact ⟨show x.lo ≤ 100000 by omega, show p ≤ 100000 by omega⟩
    · exact ⟨show p + m - c ≤ 100000 by omega, show x.hi + m - c ≤ 100000 by omega⟩
  · split at hx2
    · rw [List.mem_singleton] at hx2; subst hx2
      exact ⟨show x.lo + m - c ≤ 100000 by omega, show x.hi + m - c ≤ 100000 by omega⟩
    · rw [List.mem_singleton] at hx2; subst hx2
      exact ⟨by omega, by omega⟩
theorem joined_small (l : List Sp) (h : Small l) : Small (joined l) := by
  have := jfold_small l h l.length (Nat.le_refl _)
  rw [List.take_length] at this
  exact this
theorem own_ne_blk {w : World} {base n g size : Nat} {e : TypeId} {v : Value} {xs : List Value} {cs : Array Value} (h : w.ownsRow base e size v n xs) (hB : Blk w g e cs) (hd : cs.toList.take (n * size) ≠ xs) : v.ownBlock ≠ some g := by
  intro hv
  rcases h.2 with ⟨rfl, _⟩ | ⟨g', cap, cur, rfl, _, hg, _, _, _, ht⟩
  · cases hv
  · simp [Value.ownBlock] at hv
    subst hv
    have h9 : w.heap[g']? = some (.cells cs e (0, 0)) := hB
    rw [h9] at hg
    injection hg with hg
    injection hg with hg
    subst hg
    exact hd ht
theorem box_ne {w : World} {base g lo hi p : Nat} {v : Value} {o : List Sp} (h : w.ownsRow base 73 2 v (o.length + 1) (cellsOf spc o ++ spc ⟨lo, p⟩)) (hB : Blk w g 73 #[.int .i64 (lo : Int), .int .i64 (hi : Int)]) (hd : p < hi) : v.ownBlock ≠ some g := by
  refine own_ne_blk h hB (fun e => ?_)
  have h1 := h.1
  have h2 := congrArg List.length e
  rw [h1, List.length_take] at h2
  simp at h2
  have h3 : o = [] := List.length_eq_zero_iff.1 (by omega)
  subst h3
  simp [cellsOf, spc] at e
  omega
set_option maxRecDepth 100000 in
set_option maxHeartbeats 16000000 in
theorem shifted_any (n : Nat) (v : Value) (l : List Sp) (p c : Nat) (put : ByteArray) (w : World) (base : Nat) (h : w.ownsRow base 73 2 v l.length (cellsOf spc l)) (hl : l.length ≤ 36) (hn : n ≤ 600) (hS : Set_ n l) (he : p + c ≤ n) (hput : put.size ≤ 8) :
    Calls Try.prog 37 #[v, .agg #[.int .i64 (p : Int), .int .i64 (c : Int), .string put]] w (ShiftPost l p c put.size w) := by
  have BE := Blk.new w 29 #[.int .i64 (p : Int), .int .i64 (c : Int), .string put]
  have hal := (Below.refl w.heap.size w).alloc (Nat.le_refl _) (.cells #[.int .i64 (p : Int), .int .i64 (c : Int), .string put] 29)
  have HW := Lib.hid (without_any v l ⟨p, p + c⟩ _ base (h.alloc (.cells #[.int .i64 (p : Int), .int .i64 (c : Int), .string put] 29)) (by omega) ⟨show p ≤ 100000 by omega, show p + c ≤ 100000 by omega⟩ (hS.small hn))
  unfold spv at HW
  have hcut := wores_cut l ⟨p, p + c⟩ (show p ≤ p + c by omega) hS.nrm
  have hadd : (p : Int) + (c : Int) = ((p + c : Nat) : Int) := by omega
  rw [← hadd] at HW
  obtain ⟨A, ca, rfl, hc1, hc2⟩ := own_slice h
  clear h hadd
  go_enter Try.func37, Try.ntmps37
  go_wp2_with fail
  refine HW.out.mono ?_
  rintro e w1 ⟨v1, rfl, ho1, hb1⟩
  have hsr := hcut.set_ hS
  have hap : ∀ x ∈ WoRes l ⟨p, p + c⟩, Apart p c x := apart_of hcut.1 (fun j h1 h2 => by
    rw [hcut.2.1]
    simp
    intro _; exact ⟨h1, h2⟩)
  have HCUT := Lib.hid hcut
  have HSR := Lib.hid hsr
  have HAP := Lib.hid hap
  have hrl := hcut.2.2
  generalize WoRes l ⟨p, p + c⟩ = r at *
  have HO1 := Lib.hid ho1
  have HB1 := Lib.hid (hal.trans (hb1.mono (by simp)))
  have BE1 := BE.below hb1 (by simp)
  have hs1 := hb1.size
  simp at hs1
  obtain ⟨A1, c1, rfl, hc11, hc12⟩ := own_slice ho1
  clear ho1 hb1 hal HW hcut hsr hap BE
  go_wp2_with fail
  go_loopw [5, 7, 8, 20] (fun vo _ _ vi wr => ∃ k : Nat, k ≤ r.length ∧ vi = .int .i64 k ∧ wr.ownsRow w1.heap.size 73 2 vo (pieces p c put.size (r.take k)).length (cellsOf spc (pieces p c put.size (r.take k))) ∧ Below w1.heap.size w1 wr) (fun _ _ _ vi _ => r.length - (intOf vi).toNat)
  case atStart => exact ⟨0, Nat.zero_le _, rfl, World.ownsRow_nil _ _ _ _, Below.refl _ _⟩
  case round =>
    obtain ⟨k, hk, rfl, hown, hb⟩ := hrel
    have hbs := hb.size
    by_cases hlt : k < r.length
    · have hrk := (CRow.of_own spc_len HO1.out)
      obtain ⟨Aq, cq, hvq, _, _, hrd⟩ := hrk
      injection hvq with e1 _ e3
      subst e1
      obtain ⟨b, off, rfl, hbb, x0, x1⟩ := CRow.cells2 (hrd.below hb) hlt
      have BEr := BE1.below hb BE1.lt
      have y0 : wr.cell? ⟨w.heap.size, 0, none⟩ = some (.int .i64 (p : Int)) := BEr.cell 0
      have y1 : wr.cell? ⟨w.heap.size, 1, none⟩ = some (.int .i64 (c : Int)) := BEr.cell 1
      have y2 : wr.cell? ⟨w.heap.size, 2, none⟩ = some (.string put) := BEr.cell 2
      have hgE : w.heap.size < wr.heap.size := BEr.lt
      have hbw : b < wr.heap.size := by omega
      have hxn := HSR.out.hi r[k] (List.getElem_mem hlt)
      have hxl := nrm_lt r 0 HSR.out.nrm k hlt
      have hxa := HAP.out r[k] (List.getElem_mem hlt)
      have HTK : Hid (pieces p c put.size (r.take (k + 1)) = pieces p c put.size (r.take k) ++ piece p c put.size r[k]) := Lib.hid (by rw [List.take_succ_eq_append_getElem hlt]; unfold pieces; rw [List.flatMap_append, List.flatMap_cons, List.flatMap_nil, List.append_nil])
      have hpl : (pieces p c put.size (r.take k)).length ≤ 100 := by
        have h9 : ∀ (q : List Sp), (pieces p c put.size q).length ≤ 2 * q.length := by
          intro q
          induction q with
          | nil => simp [pieces]
          | cons z q ih =>
            rw [pieces_cons, List.length_append, List.length_cons]
            have : (piece p c put.size z).length ≤ 2 := by unfold piece; split <;> (try split) <;> simp
            omega
        have := h9 (r.take k)
        rw [List.length_take] at this
        omega
      generalize r[k] = x at *
      generalize pieces p c put.size (r.take k) = o at *
      obtain ⟨Ao, co, rfl, ho1, ho2⟩ := own_slice hown
      have BX := Blk.new wr 73 #[.int .i64 (x.lo : Int), .int .i64 (x.hi : Int)]
      have hno : (Value.slice Ao o.length co).ownBlock ≠ some wr.heap.size := own_lt_ne9 hown (Nat.le_refl _)
      have HNO := Lib.hid hno
      clear hrd e3 hno BEr
      by_cases q : x.lo < p ∧ p < x.hi
      · have qhi := q.2
        have HOW := Lib.hid (hown.alloc (.cells #[.int .i64 (x.lo : Int), .int .i64 (x.hi : Int)] 73))
        have HBW := Lib.hid (hb.alloc hbs (.cells #[.int .i64 (x.lo : Int), .int .i64 (x.hi : Int)] 73))
        have hc0 := hxa.1 q.1 q.2
        have hpc : piece p c put.size x = [⟨x.lo, p⟩, ⟨p + put.size - c, x.hi + put.size - c⟩] := by unfold piece; rw [if_pos q]
        have HPC := Lib.hid hpc
        have g1 : (x.lo : Int) < (p : Int) := by omega
        have g2 : (p : Int) < (x.hi : Int) := by omega
        have e1 : (p : Int) + ((put.size : Int) - (c : Int)) = ((p + put.size - c : Nat) : Int) := by omega
        have e2 : (x.hi : Int) + ((put.size : Int) - (c : Int)) = ((x.hi + put.size - c : Nat) : Int) := by omega
        clear hpc hxa q hown hb
        go_wp2_with (at_builtin; first | go_loud (refine wpList_appN rfl (.tmp 36) (.tmp 42) _ rfl w1.heap.size 73 _ 2 16 Try.underlying26 span_info rfl (by decide) (.slice Ao o.length co) o.length _ rfl HOW.out (spc ⟨x.lo, p⟩) rfl _ rfl (by simp) rfl (spc_one _) (by omega) (by omega) HBW.out.size ?_; intro v8 w8 ho8 hB8 hg8; have HO8 := Lib.hid ho8; have HB8 := Lib.hid (hB8 _ (Nat.le_refl _) _ HBW.out); have BX8 := BX.grown hg8 (fun h => HNO.out h.symm); have BE8 := BE1.below HB8.out BE1.lt; have z0 : w8.cell? ⟨w.heap.size, 0, none⟩ = some (.int .i64 (p : Int)) := BE8.cell 0; have z1 : w8.cell? ⟨w.heap.size, 1, none⟩ = some (.int .i64 (c : Int)) := BE8.cell 1; have z2 : w8.cell? ⟨w.heap.size, 2, none⟩ = some (.string put) := BE8.cell 2; have HO9 := Lib.hid (ownsRow_setCell_other (ownsRow_setCell_other (ownsRow_setCell_other HO8.out (a := ⟨wr.heap.size, 0, none⟩) (box_ne HO8.out BX8 qhi) (.int .i64 (p : Int))) (a := ⟨wr.heap.size, 0, none⟩) (box_ne HO8.out BX8 qhi) (.int .i64 ((p : Int) + put.size))) (a := ⟨wr.heap.size, 1, none⟩) (box_ne HO8.out BX8 qhi) (.int .i64 ((x.hi : Int) + put.size))); have HB9 := Lib.hid (((HB8.out.setCell (p := ⟨wr.heap.size, 0, none⟩) hbs (.int .i64 (p : Int))).setCell (p := ⟨wr.heap.size, 0, none⟩) hbs (.int .i64 ((p : Int) + put.size))).setCell (p := ⟨wr.heap.size, 1, none⟩) hbs (.int .i64 ((x.hi : Int) + put.size))); have x80 : w8.cell? ⟨wr.heap.size, 0, none⟩ = some (.int .i64 (x.lo : Int)) := BX8.cell 0; have x81 : w8.cell? ⟨wr.heap.size, 1, none⟩ = some (.int .i64 (x.hi : Int)) := BX8.cell 1; have x8f := BX8.frozen 0; have x8g := BX8.frozen 1; clear ho8 hB8 hg8) | (refine wpList_appN rfl (.tmp 67) (.tmp 69) _ rfl w1.heap.size 73 _ 2 16 Try.underlying26 span_info rfl (by decide) v8 (o.length + 1) _ rfl HO9.out [.int .i64 ((p : Int) + put.size), .int .i64 ((x.hi : Int) + put.size)] rfl _ rfl (by simp) rfl (by simp [Value.oneCell']) (by omega) (by omega) HB9.out.size ?_; intro v10 w10 ho10 hB10 hg10; have HO10 := Lib.hid ho10; have HB10 := Lib.hid (hB10 _ (Nat.le_refl _) _ HB9.out); clear ho10 hB10 hg10))

        refine ⟨⟨_, _, _, _, ?rel, rfl, rfl, rfl, rfl⟩, ?measure⟩
        case rel =>
          refine ⟨k + 1, by omega, by go_num, ?_, HB10.out⟩
          rw [show pieces p 0 put.size (r.take (k + 1)) = pieces p c put.size (r.take (k + 1)) by rw [hc0], HTK.out, HPC.out]
          have e9 : o ++ [(⟨x.lo, p⟩ : Sp), ⟨p + put.size - c, x.hi + put.size - c⟩] = (o ++ [⟨x.lo, p⟩]) ++ [⟨p + put.size - c, x.hi + put.size - c⟩] := by simp
          rw [e9, cellsOf_snoc, cellsOf_snoc]
          have e10 : spc ⟨p + put.size - c, x.hi + put.size - c⟩ = [.int .i64 ((p : Int) + put.size), .int .i64 ((x.hi : Int) + put.size)] := by simp [spc, hc0]
          rw [e10]
          have h10 := HO10.out
          rw [List.length_append, List.length_append]
          exact h10
        case measure => simp [intOf]; omega
      · by_cases rr : p ≤ x.lo
        · have hcl := hxa.2 rr
          have hpc : piece p c put.size x = [⟨x.lo + put.size - c, x.hi + put.size - c⟩] := by unfold piece; rw [if_neg q, if_pos rr]
          have HPC := Lib.hid hpc
          have g1 : ¬ (x.lo : Int) < (p : Int) := by omega
          have g3 : (p : Int) ≤ (x.lo : Int) := by omega
          have e1 : (x.lo : Int) + ((put.size : Int) - (c : Int)) = ((x.lo + put.size - c : Nat) : Int) := by omega
          have e2 : (x.hi : Int) + ((put.size : Int) - (c : Int)) = ((x.hi + put.size - c : Nat) : Int) := by omega
          clear hpc hxa q rr
          have HOW := Lib.hid (hown.alloc (.cells #[.int .i64 ((x.lo + put.size - c : Nat) : Int), .int .i64 ((x.hi + put.size - c : Nat) : Int)] 73))
          have HBW := Lib.hid (hb.alloc hbs (.cells #[.int .i64 ((x.lo + put.size - c : Nat) : Int), .int .i64 ((x.hi + put.size - c : Nat) : Int)] 73))
          clear hown hb
          go_wp2_with (at_builtin; go_loud (refine wpList_appN rfl (.tmp 67) (.tmp 69) _ rfl w1.heap.size 73 _ 2 16 Try.underlying26 span_info rfl (by decide) (.slice Ao o.length co) o.length _ rfl HOW.out (spc ⟨x.lo + put.size - c, x.hi + put.size - c⟩) rfl _ rfl (by simp) rfl (spc_one _) (by omega) (by omega) HBW.out.size ?_; intro v8 w8 ho8 hB8 hg8; have HO8 := Lib.hid ho8; have HB8 := Lib.hid (hB8 _ (Nat.le_refl _) _ HBW.out); clear ho8 hB8 hg8))
          go_roundw
          case rel =>
            refine ⟨k + 1, by omega, by go_num, ?_, HB8.out⟩
            rw [HTK.out, HPC.out, cellsOf_snoc, List.length_append]
            exact HO8.out
          case measure => simp [intOf]; omega
        · have hpc : piece p c put.size x = [x] := by unfold piece; rw [if_neg q, if_neg rr]
          have HPC := Lib.hid hpc
          have g1 : (x.lo : Int) < (p : Int) := by omega
          have g2 : ¬ (p : Int) < (x.hi : Int) := by omega
          have g3 : ¬ (p : Int) ≤ (x.lo : Int) := by omega
          have HOW := Lib.hid (hown.alloc (.cells #[.int .i64 (x.lo : Int), .int .i64 (x.hi : Int)] 73))
          have HBW := Lib.hid (hb.alloc hbs (.cells #[.int .i64 (x.lo : Int), .int .i64 (x.hi : Int)] 73))
          clear hpc hxa q rr hown hb
          go_wp2_with (at_builtin; go_loud (refine wpList_appN rfl (.tmp 67) (.tmp 69) _ rfl w1.heap.size 73 _ 2 16 Try.underlying26 span_info rfl (by decide) (.slice Ao o.length co) o.length _ rfl HOW.out (spc x) rfl _ rfl (by simp) rfl (spc_one x) (by omega) (by omega) HBW.out.size ?_; intro v8 w8 ho8 hB8 hg8; have HO8 := Lib.hid ho8; have HB8 := Lib.hid (hB8 _ (Nat.le_refl _) _ HBW.out); clear ho8 hB8 hg8))
          go_roundw
          case rel =>
            refine ⟨k + 1, by omega, by go_num, ?_, HB8.out⟩
            rw [HTK.out, HPC.out, cellsOf_snoc, List.length_append]
            exact HO8.out
          case measure => simp [intOf]; omega
    · obtain rfl : k = r.length := by omega
      have BEr := BE1.below hb BE1.lt
      have hgE : w.heap.size < wr.heap.size := BEr.lt
      rw [List.take_length] at hown
      have h0 : (pieces p c put.size r).length ≤ r.length + 1 := pieces_len _ _ _ r 0 HSR.out.nrm
      have hasc : Asc 0 (pieces p c put.size r) := by
        have h9 := pieces_asc p c put.size r 0 HSR.out.nrm HAP.out
        rw [show from_ p c put.size 0 = 0 by unfold from_; rw [if_pos (Nat.zero_le _)]] at h9
        exact h9
      have HIN := Lib.hid (pieces_in p c put.size r 0 HSR.out.nrm HAP.out)
      have HPS := Lib.hid (pieces_small p c put.size r (fun x hx => Nat.le_trans (HSR.out.hi x hx) hn) (fun x hx => Nat.le_of_lt (nrm_hi r 0 HSR.out.nrm x hx).2.1) (by omega) hput)
      have HJN := Lib.hid (joined_ok _ hasc)
      have HJS := Lib.hid (joined_small _ HPS.out)
      have hjl := joined_len (pieces p c put.size r)
      have HJO := Lib.hid (fun W (hW : Below wr.heap.size wr W) => joined_any _ (pieces p c put.size r) W (CRow.of_own spc_len (own_below hown hW)) (by omega) HPS.out)
      have HBW := Lib.hid (HB1.out.trans (hb.mono (by omega)))
      clear hasc
      generalize pieces p c put.size r = o at *
      generalize joined o = jo at *
      obtain ⟨Ao, co, rfl, ho1, ho2⟩ := own_slice hown
      clear hown hb
      go_wp2_with fail
      refine wp_region_ph [([0, 2, 3, 4, 5, 6, 7, 8, 9, 10], [1, 11]), ([12], [])] (fun w' => Below wr.heap.size wr w') (by kernel_rfl) (by kernel_rfl) (fun _ _ h1 h2 => bstep h1 h2) (by repeat' (first | exact Below.refl _ _ | apply below_drewN)) ?_
      intro ι F hne hF W0 hW0 hI0
      have c0 : ∀ i, (F i).cell? ⟨w.heap.size, 0, none⟩ = some (.int .i64 (p : Int)) := fun i => (BEr.below (hF i) hgE).cell 0
      have c1 : ∀ i, (F i).cell? ⟨w.heap.size, 1, none⟩ = some (.int .i64 (c : Int)) := fun i => (BEr.below (hF i) hgE).cell 1
      have c2 : ∀ i, (F i).cell? ⟨w.heap.size, 2, none⟩ = some (.string put) := fun i => (BEr.below (hF i) hgE).cell 2
      (refine wpPh_cons ?_; simp only [pickOps, List.getElem?_cons_succ, List.getElem?_cons_zero])
      repeat (refine wpB_step (fun K hK => ?_); go_simp; first | (refine hK _ ?_; clear hK K) | (apply Exists.intro; refine ⟨fun _ => ?_, hK _ ?_⟩; (fail); clear hK K))
      refine wpB_nil ?_
      intro w3 hw3 hI3
      have HI3 := Lib.hid hI3
      clear c0 c1 c2 hw3 hI3 hF
      refine wpRB_step (fun K hK => ?_)
      go_simp
      refine (HJO.out w3 HI3.out).mono ?_
      rintro e w4 ⟨v4, rfl, ho4, hb4⟩
      have HI4 := Lib.hid (bstep HI3.out hb4)
      refine ⟨_, rfl, hK _ _ ⟨HI4.out, ?_⟩⟩
      clear hK K
      intro w5 hw5 hI5
      have HO5 := Lib.hid (own_below ho4 hw5)
      have HI5 := Lib.hid hI5
      clear hw5 hI5 ho4 hb4
      refine wpRB_step (fun K hK => ?_)
      go_simp
      have HWI := with_any v4 jo ⟨p, p + put.size⟩ w5 w3.heap.size HO5.out (by omega) ⟨show p ≤ p + put.size by omega, show p + put.size ≤ 100000 by omega⟩ HJS.out HJN.out.1
      unfold spv at HWI
      rw [show ((p + put.size : Nat) : Int) = (p : Int) + (put.size : Int) by omega] at HWI
      rw [IntWalk.i64_in ((p : Int) + (put.size : Int)) (by omega)]
      refine HWI.mono ?_
      clear HWI
      rintro e w6 ⟨v6, oo, rfl, ho6, hiw, hb6⟩
      have HI6 := Lib.hid (bstep HI5.out hb6)
      refine ⟨_, rfl, hK _ _ ⟨HI6.out, ?_⟩⟩
      clear hK K
      intro w7 hw7 hI7
      have HO7 := Lib.hid (own_below ho6 hw7)
      have HI7 := Lib.hid hI7
      have HIW := Lib.hid hiw
      obtain ⟨A6, c6, rfl, hA61, hA62⟩ := own_slice ho6
      clear hw7 hI7 ho6 hb6 hiw
      refine wpRB_nil ?_
      (refine wpPh_cons ?_; simp only [pickOps, List.getElem?_cons_succ, List.getElem?_cons_zero])
      repeat (refine wpB_step (fun K hK => ?_); go_simp; first | (refine hK _ ?_; clear hK K) | (apply Exists.intro; refine ⟨fun _ => ?_, hK _ ?_⟩; (fail); clear hK K))
      refine wpB_nil ?_
      intro w9 hw9 hI9
      have HO9 := Lib.hid (own_below HO7.out hw9)
      have HI9 := Lib.hid hI9
      clear hw9 hI9
      refine wpRB_nil ?_
      refine wpPh_nil ?_
      go_wp2_with fail
      go_ret
      exact ⟨_, oo, rfl, own_mono HO9.out (by have := HBW.out.size; have := HI5.out.size; omega), ⟨HIW.out.1, fun j => by rw [HIW.out.2.1, HJN.out.2, HIN.out, backAt_cut HCUT.out], by have := HIW.out.2.2; omega⟩, HBW.out.trans (HI9.out.mono HBW.out.size)⟩
end Go.Proofs.Ythemlhkdgaeogaa
