/-
  The walks of diff.add and diff.Way: the steps from one list of lines to another one. Nothing that was there is changed.
-/
import Derived.Test.YtpgjjnbepkofdaaWayP
import Derived.Test.YtpgjjnbepkofdaaCosts
import Derived.Test.YtpgjjnbepkofdaaCopy
import Derived.BigQuiet
import Derived.Deep.QuietTactic
namespace Go.Proofs.Ytpgjjnbepkofdaa
open Go.RowKit
set_option linter.unusedVariables false

def stc (s : St) : List Value := [.int .i64 (s.k : Int), .int .i64 (s.c : Int)]
theorem stc_len (s : St) : (stc s).length = 2 := rfl
theorem stc_one (s : St) : ∀ u ∈ stc s, u.oneCell' = true := by intro u hu; simp [stc] at hu; rcases hu with rfl | rfl <;> rfl
theorem step_info : (Try.prog.info? 145).map (fun i => (i.zero, i.size, i.bytes)) = some (some (.agg #[.int .i64 0, .int .i64 0]), 2, 16) := by kernel_rfl
theorem own_blk {w : World} {base : Nat} {e : TypeId} {size n : Nat} {v : Value} {xs : List Value} (h : w.ownsRow base e size v n xs) : v.ownBlock = none ∨ ∃ g cs, v.ownBlock = some g ∧ Blk w g e cs := by
  rcases h.2 with ⟨rfl, _⟩ | ⟨g, cap, cur, rfl, _, hh, _⟩
  · exact .inl rfl
  · exact .inr ⟨g, cur, rfl, hh⟩
theorem own_row {w w' : World} {base : Nat} {e : TypeId} {size n : Nat} {v : Value} {xs : List Value} (h : w.ownsRow base e size v n xs) (hg : w.grownBy w' v.ownBlock) : w.grownBy w' v.ownBlock ∧ (v.ownBlock = none ∨ ∃ g cs, v.ownBlock = some g ∧ Blk w g e cs) := ⟨hg, own_blk h⟩
theorem rowIs_grown {w w' : World} {b : Nat} {t e : TypeId} {n : Nat} {f : Nat → Value} {row : Option Nat} (h : w.rowIs b t n f) (hg : w.grownBy w' row) (hr : row = none ∨ ∃ g cs, row = some g ∧ Blk w g e cs) (hne : t ≠ e) : w'.rowIs b t n f := by
  obtain ⟨c, h1, h2, h3⟩ := h
  have hb : Blk w b t c := h1
  refine ⟨c, (hb.grown hg ?_), h2, h3⟩
  rcases hr with rfl | ⟨g, cs, rfl, hB⟩
  · simp
  · intro he
    injection he with he
    exact Blk.ne_ hb hB hne he
theorem Tab.grown {w w' : World} {e : TypeId} {B G n m q : Nat} {H : Nat → Nat} {D : Nat → Nat → Nat} {row : Option Nat} (h : Tab w B G n m H q D) (hg : w.grownBy w' row) (hr : row = none ∨ ∃ g cs, row = some g ∧ Blk w g e cs) (h1 : 22 ≠ e) (h2 : 3 ≠ e) : Tab w' B G n m H q D :=
  ⟨rowIs_grown h.1 hg hr h1, fun r hr' hn => ⟨(h.2 r hr' hn).1, (h.2 r hr' hn).2.1, rowIs_grown (h.2 r hr' hn).2.2 hg hr h2⟩⟩
def AddPost (base : Nat) (l : List St) (k : Nat) (w : World) (e : Ending) (w' : World) : Prop :=
  ∃ v row, e = .returned v ∧ w'.ownsRow base 145 2 v (addS l k).length (cellsOf stc (addS l k)) ∧ Below base w w' ∧ w.grownBy w' row ∧ (row = none ∨ ∃ g cs, row = some g ∧ Blk w g 145 cs)

set_option maxRecDepth 100000 in
set_option maxHeartbeats 2000000 in
theorem add_any (v : Value) (l : List St) (k : Nat) (w : World) (base : Nat) (h : w.ownsRow base 145 2 v l.length (cellsOf stc l)) (hb : base ≤ w.heap.size) (hk : k ≤ 3) (hl : l.length ≤ 1000) (hc : ∀ s ∈ l, s.c ≤ 1000 ∧ s.k ≤ 1000) :
    Calls Try.prog 121 #[v, .int .i64 k] w (AddPost base l k w) := by
  rcases snoc_cases l with rfl | ⟨m, s, rfl⟩
  · obtain ⟨A, c, rfl, hcl, hcm⟩ := own_slice h
    go_enter Try.func121, Try.ntmps121
    go_wp2_with (at_builtin; refine wpList_appN rfl (.tmp 30) (.tmp 33) _ rfl base 145 _ 2 16 Try.underlying142 step_info rfl (by decide) _ 0 [] rfl h [.int .i64 k, .int .i64 1] rfl _ rfl rfl rfl (by simp [Value.oneCell']) (by omega) (by omega) hb ?_)
    intro v' w' h2 h3 hg5
    have h4 := h3 base (Nat.le_refl _) _ (Below.refl base w)
    have HG := Lib.hid (own_row h hg5)
    clear hg5
    go_wp2_with fail
    go_ret
    exact ⟨_, _, rfl, h2, h4, HG.out⟩
  · obtain ⟨g, cap, rfl, hg, hlt⟩ := h.form (by simp)
    have hlen : (m ++ [s]).length = m.length + 1 := by simp
    have hcell := cellsOf_at stc_len (m ++ [s]) m.length (by simp) 0 (by omega)
    have hcell1 := cellsOf_at stc_len (m ++ [s]) m.length (by simp) 1 (by omega)
    have hget : (m ++ [s])[m.length]'(by simp) = s := by simp
    rw [hget] at hcell hcell1
    have c0 : w.cell? ⟨g, m.length * 2, none⟩ = some (.int .i64 (s.k : Int)) := by have := h.cells rfl _ _ (by simpa [stc] using hcell); rwa [add_head] at this
    have c1 : w.cell? ⟨g, m.length * 2 + 1, none⟩ = some (.int .i64 (s.c : Int)) := by have := h.cells rfl _ _ (by simpa [stc] using hcell1); rwa [add_head] at this
    have f1 := h.frozenAt (m.length * 2 + 1)
    obtain ⟨b1, b2⟩ := hc s (by simp)
    obtain ⟨A, cc, hv, hcl, hcm⟩ := own_slice h
    injection hv with hv1 hv2 hv3
    subst hv1
    subst hv3
    clear hv2
    unfold maxLen at hcm
    have hml : m.length ≤ 1000 := by omega
    by_cases e : s.k = k
    · have hst := (h.stored (m.length * 2 + 1) (.int .i64 ((s.c : Int) + 1))).1
      rw [cellsOf_set stc_len _ m.length (by simp) 1 (by omega) _ ⟨k, s.c + 1⟩ (by rw [hget]; simp [stc, e])] at hst
      have hs2 : (m ++ [s]).set m.length ⟨k, s.c + 1⟩ = m ++ [⟨k, s.c + 1⟩] := by simp
      rw [hs2] at hst
      have HST := Lib.hid hst
      have HG := Lib.hid (show w.grownBy (w.setCell ⟨g, m.length * 2 + 1, none⟩ (.int .i64 ((s.c : Int) + 1))) (some g) ∧ ((some g : Option Nat) = none ∨ ∃ g' cs, (some g : Option Nat) = some g' ∧ Blk w g' 145 cs) from
        ⟨grown_set w ⟨g, m.length * 2 + 1, none⟩ _, by
          rcases own_blk h with h | ⟨g', cs, h1, h2⟩
          · simp [Value.ownBlock] at h
          · exact .inr ⟨g', cs, by simpa [Value.ownBlock] using h1, h2⟩⟩)
      have HA := Lib.hid (show addS (m ++ [s]) k = m ++ [⟨k, s.c + 1⟩] by rw [addS_snoc, if_pos e])
      have HLEN := Lib.hid hlen
      clear hst hs2 hcell hcell1 hget hc hl h
      rw [hlen] at hcl ⊢
      clear hlen
      have hq : ((s.k : Int) == (k : Int)) = true := by simp; omega
      have hkk : (s.k : Int) = k := by omega
      rw [hkk] at c0
      clear hq hkk e
      have KB := Lib.hid ((Below.refl base w).setCell (p := ⟨g, m.length * 2 + 1, none⟩) hg (.int .i64 ((s.c : Int) + 1)))
      go_enter Try.func121, Try.ntmps121
      go_wp2_with fail
      go_ret
      refine ⟨_, _, rfl, ?_, KB.out, HG.out⟩
      rw [HA.out]
      have := HST.out
      rw [HLEN.out] at this
      simpa using this
    · have HA := Lib.hid (show addS (m ++ [s]) k = m ++ [s] ++ [⟨k, 1⟩] by rw [addS_snoc, if_neg e])
      have hq : ((s.k : Int) == (k : Int)) = false := by simp; omega
      have HLEN := Lib.hid hlen
      have h' : w.ownsRow base 145 2 (.slice (some ⟨g, 0, none⟩) (m.length + 1) cap) (m.length + 1) (cellsOf stc (m ++ [s])) := by rw [← hlen]; exact h
      clear hcell hcell1 hget hc h
      rw [hlen] at hcl ⊢
      clear hlen
      go_enter Try.func121, Try.ntmps121
      go_wp2_with (at_builtin; refine wpList_appN rfl (.tmp 30) (.tmp 33) _ rfl base 145 _ 2 16 Try.underlying142 step_info rfl (by decide) _ _ _ rfl h' [.int .i64 k, .int .i64 1] rfl _ rfl rfl rfl (by simp [Value.oneCell']) (by omega) (by omega) hb ?_)
      intro v' w' h2 h3 hg5
      have h4 := h3 base (Nat.le_refl _) _ (Below.refl base w)
      have HG := Lib.hid (own_row h' hg5)
      clear hg5
      go_wp2_with fail
      go_ret
      refine ⟨_, _, rfl, ?_, h4, HG.out⟩
      rw [HA.out, cellsOf_snoc, List.length_append, HLEN.out]
      exact h2

section
variable (a b : List ByteArray)
theorem way_keep {i k : Nat} (hi : i < a.length) (hk : k < b.length) (h : a[i] = b[k]) : way (a.drop i) (b.drop k) = 1 :: way (a.drop (i + 1)) (b.drop (k + 1)) := by
  rw [List.drop_eq_getElem_cons hi, List.drop_eq_getElem_cons hk]; conv => lhs; unfold way
  rw [if_pos h]
theorem way_drop {i k : Nat} (hi : i < a.length) (hk : k < b.length) (h : ¬ a[i] = b[k]) (hd : dD a b (i + 1) k + 1 = dD a b i k) : way (a.drop i) (b.drop k) = 2 :: way (a.drop (i + 1)) (b.drop k) := by
  unfold dD at hd
  rw [List.drop_eq_getElem_cons hi, List.drop_eq_getElem_cons hk] at hd ⊢; conv => lhs; unfold way
  rw [if_neg h, if_pos hd]
theorem way_take {i k : Nat} (hi : i < a.length) (hk : k < b.length) (h : ¬ a[i] = b[k]) (hd : ¬ dD a b (i + 1) k + 1 = dD a b i k) : way (a.drop i) (b.drop k) = 3 :: way (a.drop i) (b.drop (k + 1)) := by
  unfold dD at hd
  rw [List.drop_eq_getElem_cons hi, List.drop_eq_getElem_cons hk] at hd ⊢; conv => lhs; unfold way
  rw [if_neg h, if_neg hd]
theorem way_dropEnd {i : Nat} (hi : i < a.length) : way (a.drop i) (b.drop b.length) = 2 :: way (a.drop (i + 1)) (b.drop b.length) := by
  rw [List.drop_eq_getElem_cons hi, List.drop_length]; conv => lhs; unfold way
theorem way_takeEnd {k : Nat} (hk : k < b.length) : way (a.drop a.length) (b.drop k) = 3 :: way (a.drop a.length) (b.drop (k + 1)) := by
  rw [List.drop_eq_getElem_cons hk, List.drop_length]; conv => lhs; unfold way
theorem way_end : way (a.drop a.length) (b.drop b.length) = [] := by
  rw [List.drop_length, List.drop_length]; unfold way; rfl
end
theorem steps_pre (ks pre rest : List Nat) (h : ks = pre ++ rest) : (steps pre).length ≤ ks.length ∧ ∀ s ∈ steps pre, s.c ≤ ks.length := by
  have h1 := grp_len _ (grp_steps pre)
  unfold total at h1
  rw [expand_steps] at h1
  have hl : pre.length ≤ ks.length := by rw [h]; simp
  refine ⟨by omega, fun s hs => ?_⟩
  obtain ⟨p, q, hpq⟩ := List.append_of_mem hs
  have h2 : (expand (steps pre)).length = pre.length := by rw [expand_steps]
  rw [hpq, expand_append, expand_cons] at h2
  simp at h2; omega

theorem dD_end (a b : List ByteArray) (i : Nat) (h : i ≤ a.length) : dD a b i b.length = a.length - i := by
  unfold dD; rw [List.drop_length, Dc.dc_nil_right, List.length_drop]

def WayPost (a b : List ByteArray) (w : World) (e : Ending) (w' : World) : Prop :=
  ∃ v, e = .returned v ∧ w'.ownsRow w.heap.size 145 2 v (steps (way a b)).length (cellsOf stc (steps (way a b))) ∧ Below w.heap.size w w'

set_option maxRecDepth 100000 in
set_option maxHeartbeats 4000000 in
theorem way_any (va vb : Value) (a b : List ByteArray) (w : World) (ha : SRow w va a) (hb : SRow w vb b) (hn : a.length ≤ 200) (hm : b.length ≤ 200) :
    Calls Try.prog 92 #[va, vb] w (WayPost a b w) := by
  have HC0 := Lib.hid (steps_pre (way a b))
  have HLEN := Lib.hid (way_len _ a b (Nat.le_refl _))
  have HKD := Lib.hid (way_kind _ a b (Nat.le_refl _))
  have CO := Lib.hid (fun W (ha : SRow W va a) (hb : SRow W vb b) => costs_any va vb a b W ha hb (by omega) (by omega))
  obtain ⟨Aa, ca, rfl, hla, hca, hra⟩ := id ha
  obtain ⟨Ab, cb, rfl, hlb, hcb, hrb⟩ := id hb
  unfold maxLen at hca hcb
  have HA := Lib.hid hra
  have HB := Lib.hid hrb
  clear hra hrb
  go_enter Try.func92, Try.ntmps92
  go_wp2_with fail
  refine (CO.out _ ha hb).mono ?_
  rintro e w1 ⟨G, H, rfl, htab, hb1⟩
  clear CO ha hb
  have HT1 := Lib.hid htab
  clear htab
  go_wp2_with fail
  go_loopw [6, 7, 8] (fun o i k wr => ∃ (I J : Nat) (pre : List Nat), I ≤ a.length ∧ J ≤ b.length ∧ i = .int .i64 I ∧ k = .int .i64 J ∧ way a b = pre ++ way (a.drop I) (b.drop J) ∧ wr.ownsRow w.heap.size 145 2 o (steps pre).length (cellsOf stc (steps pre)) ∧ Tab wr w.heap.size G a.length b.length H 0 (dD a b) ∧ Below w.heap.size w wr) (fun _ i k _ => a.length + b.length - (intOf i).toNat - (intOf k).toNat)
  case atStart => exact ⟨0, 0, [], Nat.zero_le _, Nat.zero_le _, rfl, rfl, by simp, World.ownsRow_nil _ _ _ _, HT1.out, hb1⟩
  case round =>
    obtain ⟨I, J, pre, hI, hJ, rfl, rfl, hw, hown, htab, hbel⟩ := hrel
    have HW := Lib.hid hw
    have HT := Lib.hid htab
    have hpre := HC0.out pre _ hw
    have hpl : (steps pre).length ≤ 400 := by have := HLEN.out; omega
    have HC := Lib.hid (fun s (hs : s ∈ steps pre) => (show s.c ≤ 1000 ∧ s.k ≤ 1000 by
      have h1 := hpre.2 s hs; have := HLEN.out
      have h2 := (steps_kind pre (fun x hx => HKD.out x (by rw [hw]; exact List.mem_append.2 (.inl hx))) s hs).2
      omega))
    clear hw htab hpre
    by_cases hIl : I < a.length
    · obtain ⟨bA, oA, rfl, hbA, cA⟩ := SRow.at_ (HA.out.below hbel) hIl
      have y0 : (0 : Int) ≤ (I : Int) := Int.natCast_nonneg _
      have y1 : (I : Int) < (a.length : Int) := by omega
      have y2 : (0 : Int) ≤ (J : Int) := Int.natCast_nonneg _
      have y3 : (J : Int) ≤ (b.length : Int) := by omega
      have yd : decide (I < a.length) = true := decide_eq_true hIl
      have t1 := HT.out.1.cell (i := I + 1) (by omega)
      have t2 := HT.out.1.cell (i := I) (by omega)
      rw [if_pos (Nat.zero_le _)] at t1 t2
      have t3 := (HT.out.2 (I + 1) (Nat.zero_le _) (by omega)).2.2.cell (i := J) (by omega)
      have t4 := (HT.out.2 I (Nat.zero_le _) (by omega)).2.2.cell (i := J) (by omega)
      have d1 := dD_le a b (I + 1) J
      have d2 := dD_le a b I J
      by_cases hJl : J < b.length
      · obtain ⟨bB, oB, rfl, hbB, cB⟩ := SRow.at_ (HB.out.below hbel) hJl
        have y4 : (J : Int) < (b.length : Int) := by omega
        have ye : decide (J < b.length) = true := decide_eq_true hJl
        by_cases hab : a[I] = b[J]
        · have HX := Lib.hid (way_keep a b hIl hJl hab)
          have hqs := bytes_eq hab
          generalize a[I] = sa at *
          generalize b[J] = sb at *
          clear hab t1 t2 t3 t4 d1 d2 hbA hbB
          go_wp2_with fail
          go_quiet (fail)
          go_wp2_with fail
          refine (add_any _ _ 1 _ w.heap.size (by exact hown) (by exact hbel.size) (by omega) (by omega) HC.out).mono ?_
          rintro e w1 ⟨v1, row, rfl, hown1, hb1, hg1, hrow⟩
          rw [← steps_snoc] at hown1
          have hbr : Below w.heap.size wr w1 := ⟨hb1.os, hb1.tape, hb1.output, hb1.size, hb1.block⟩
          have hbel1 := hbel.trans hbr
          have hgr : wr.grownBy w1 row := ⟨hg1.os, hg1.tape, hg1.output, hg1.size, hg1.block⟩
          have htab1 := Tab.grown (e := 145) HT.out hgr (by exact hrow) (by decide) (by decide)
          clear hrow hgr hg1
          go_wp2_with fail
          go_roundw
          case rel => exact ⟨I + 1, J + 1, pre ++ [1], by omega, by omega, by go_num, by go_num, by rw [HW.out, HX.out]; simp, hown1, htab1, hbel1⟩
          case measure => simp [intOf]; omega
        · have hqs := bytes_ne hab
          have HAB := Lib.hid hab
          clear hab hbA hbB
          by_cases hd : dD a b (I + 1) J + 1 = dD a b I J
          · have HX := Lib.hid (way_drop a b hIl hJl HAB.out hd)
            clear HAB
            generalize a[I] = sa at *
            generalize b[J] = sb at *
            generalize dD a b (I + 1) J = x at *
            generalize dD a b I J = y at *
            have hq : ((x : Int) + 1 == (y : Int)) = true := by simp; omega
            clear hd
            go_wp2_with fail
            go_quiet (fail)
            go_wp2_with fail
            go_quiet (fail)
            go_wp2_with fail
            refine (add_any _ _ 2 _ w.heap.size (by exact hown) (by exact hbel.size) (by omega) (by omega) HC.out).mono ?_
            rintro e w1 ⟨v1, row, rfl, hown1, hb1, hg1, hrow⟩
            rw [← steps_snoc] at hown1
            have hbr : Below w.heap.size wr w1 := ⟨hb1.os, hb1.tape, hb1.output, hb1.size, hb1.block⟩
            have hbel1 := hbel.trans hbr
            have hgr : wr.grownBy w1 row := ⟨hg1.os, hg1.tape, hg1.output, hg1.size, hg1.block⟩
            have htab1 := Tab.grown (e := 145) HT.out hgr (by exact hrow) (by decide) (by decide)
            clear hrow hgr hg1
            go_wp2_with fail
            go_roundw
            case rel => exact ⟨I + 1, J, pre ++ [2], by omega, by omega, by go_num, by go_num, by rw [HW.out, HX.out]; simp, hown1, htab1, hbel1⟩
            case measure => simp [intOf]; omega
          · have HX := Lib.hid (way_take a b hIl hJl HAB.out hd)
            clear HAB
            generalize a[I] = sa at *
            generalize b[J] = sb at *
            generalize dD a b (I + 1) J = x at *
            generalize dD a b I J = y at *
            have hq : ((x : Int) + 1 == (y : Int)) = false := by simp; omega
            clear hd
            go_wp2_with fail
            go_quiet (fail)
            go_wp2_with fail
            go_quiet (fail)
            go_wp2_with fail
            refine (add_any _ _ 3 _ w.heap.size (by exact hown) (by exact hbel.size) (by omega) (by omega) HC.out).mono ?_
            rintro e w1 ⟨v1, row, rfl, hown1, hb1, hg1, hrow⟩
            rw [← steps_snoc] at hown1
            have hbr : Below w.heap.size wr w1 := ⟨hb1.os, hb1.tape, hb1.output, hb1.size, hb1.block⟩
            have hbel1 := hbel.trans hbr
            have hgr : wr.grownBy w1 row := ⟨hg1.os, hg1.tape, hg1.output, hg1.size, hg1.block⟩
            have htab1 := Tab.grown (e := 145) HT.out hgr (by exact hrow) (by decide) (by decide)
            clear hrow hgr hg1
            go_wp2_with fail
            go_roundw
            case rel => exact ⟨I, J + 1, pre ++ [3], by omega, by omega, by go_num, by go_num, by rw [HW.out, HX.out]; simp, hown1, htab1, hbel1⟩
            case measure => simp [intOf]; omega
      · obtain rfl : J = b.length := by omega
        have HX := Lib.hid (way_dropEnd a b hIl)
        have ye : decide (b.length < b.length) = false := by simp
        have e1 := dD_end a b (I + 1) (by omega)
        have e2 := dD_end a b I (by omega)
        generalize dD a b (I + 1) b.length = x at *
        generalize dD a b I b.length = y at *
        have hq : ((x : Int) + 1 == (y : Int)) = true := by simp; omega
        clear e1 e2 hbA cA
        go_wp2_with fail
        go_quiet (fail)
        go_wp2_with fail
        go_quiet (fail)
        go_wp2_with fail
        refine (add_any _ _ 2 _ w.heap.size (by exact hown) (by exact hbel.size) (by omega) (by omega) HC.out).mono ?_
        rintro e w1 ⟨v1, row, rfl, hown1, hb1, hg1, hrow⟩
        rw [← steps_snoc] at hown1
        have hbr : Below w.heap.size wr w1 := ⟨hb1.os, hb1.tape, hb1.output, hb1.size, hb1.block⟩
        have hbel1 := hbel.trans hbr
        have hgr : wr.grownBy w1 row := ⟨hg1.os, hg1.tape, hg1.output, hg1.size, hg1.block⟩
        have htab1 := Tab.grown (e := 145) HT.out hgr (by exact hrow) (by decide) (by decide)
        clear hrow hgr hg1
        go_wp2_with fail
        go_roundw
        case rel => exact ⟨I + 1, b.length, pre ++ [2], by omega, by omega, by go_num, by go_num, by rw [HW.out, HX.out]; simp, hown1, htab1, hbel1⟩
        case measure => simp [intOf]; omega
    · obtain rfl : I = a.length := by omega
      have yd : decide (a.length < a.length) = false := by simp
      by_cases hJl : J < b.length
      · have HX := Lib.hid (way_takeEnd a b hJl)
        have ye : decide (J < b.length) = true := decide_eq_true hJl
        go_wp2_with fail
        go_quiet (fail)
        go_wp2_with fail
        go_quiet (fail)
        go_wp2_with fail
        refine (add_any _ _ 3 _ w.heap.size (by exact hown) (by exact hbel.size) (by omega) (by omega) HC.out).mono ?_
        rintro e w1 ⟨v1, row, rfl, hown1, hb1, hg1, hrow⟩
        rw [← steps_snoc] at hown1
        have hbr : Below w.heap.size wr w1 := ⟨hb1.os, hb1.tape, hb1.output, hb1.size, hb1.block⟩
        have hbel1 := hbel.trans hbr
        have hgr : wr.grownBy w1 row := ⟨hg1.os, hg1.tape, hg1.output, hg1.size, hg1.block⟩
        have htab1 := Tab.grown (e := 145) HT.out hgr (by exact hrow) (by decide) (by decide)
        clear hrow hgr hg1
        go_wp2_with fail
        go_roundw
        case rel => exact ⟨a.length, J + 1, pre ++ [3], by omega, by omega, by go_num, by go_num, by rw [HW.out, HX.out]; simp, hown1, htab1, hbel1⟩
        case measure => simp [intOf]; omega
      · obtain rfl : J = b.length := by omega
        have HX := Lib.hid (way_end a b)
        have HPR := Lib.hid (show way a b = pre by rw [HW.out, HX.out, List.append_nil])
        go_wp2_with fail
        go_ret
        exact ⟨_, rfl, by rw [HPR.out]; exact hown, hbel⟩
end Go.Proofs.Ytpgjjnbepkofdaa
