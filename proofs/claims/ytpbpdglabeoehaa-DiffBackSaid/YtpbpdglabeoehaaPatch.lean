/-
  The walks of diff.Steps and diff.Patch. Nothing that was there is changed.
-/
import Derived.Test.YtpbpdglabeoehaaWay
import Derived.Test.YtpbpdglabeoehaaDiffT
import Derived.Test.YtpbpdglabeoehaaReg
import Derived.StillTailTactics
import Derived.RegionTactic
namespace Go.Proofs.Ytpbpdglabeoehaa
open Go.RowKit
set_option linter.unusedVariables false

def StepsPost (a b : List ByteArray) (w : World) (e : Ending) (w' : World) : Prop :=
  ∃ v, e = .returned (.tuple #[v, .int .i64 0]) ∧ CRow 2 stc w' v (steps (way a b)) ∧ Below w.heap.size w w'
set_option maxHeartbeats 1000000 in
theorem steps_any (va vb : Value) (a b : List ByteArray) (w : World) (ha : SRow w va a) (hb : SRow w vb b)
    (hla : a.length ≤ 80) (hlb : b.length ≤ 80) (hsa : ∀ s ∈ a, s.size ≤ 600) (hsb : ∀ s ∈ b, s.size ≤ 600) :
    Calls Try.prog 24 #[va, vb] w (StepsPost a b w) := by
  obtain ⟨A0, c0, rfl, hl0, hc0, hr0⟩ := id ha
  obtain ⟨A1, c1, rfl, hl1, hc1, hr1⟩ := id hb
  generalize hva : Value.slice A0 a.length c0 = va at *
  generalize hvb : Value.slice A1 b.length c1 = vb at *
  have hal : Below w.heap.size w (w.alloc (.cells #[va, vb] 44)) := (Below.refl _ _).alloc (Nat.le_refl _) _
  have hn : Blk (w.alloc (.cells #[va, vb] 44)) w.heap.size 44 #[va, vb] := Blk.new w _ _
  have hf := Lib.hid (fault_any w.heap.size va vb a b _ (by rw [hn.cell]; rfl) (by rw [hn.cell]; rfl) (ha.later hal) (hb.later hal) hla hlb hsa hsb)
  have hcs := Lib.hid (way_any va vb a b _ (ha.later hal) (hb.later hal) (by omega) (by omega))
  clear hn ha hb
  subst hva hvb
  go_enter Try.func24, Try.ntmps24
  go_wp2_with fail
  refine hf.out.mono ?_
  rintro e w' ⟨rfl, rfl⟩
  go_wp2_with fail
  refine hcs.out.mono ?_
  rintro e w1 ⟨v, rfl, ho, hb1⟩
  have HO := Lib.hid (CRow.of_own stc_len ho)
  clear ho hf hcs
  go_wp2_with fail
  go_ret2
  exact ⟨_, rfl, HO.out, bstep hal hb1⟩

section
variable {α : Type}
/-- Steps that make o of a and of new lines n. -/
def okP : List St → List α → List α → List α → Prop
  | [], a, n, o => a = [] ∧ n = [] ∧ o = []
  | s :: l, a, n, o => 1 ≤ s.c ∧
    ((s.k = 1 ∧ s.c ≤ a.length ∧ s.c ≤ o.length ∧ o.take s.c = a.take s.c ∧ okP l (a.drop s.c) n (o.drop s.c)) ∨
     (s.k = 2 ∧ s.c ≤ a.length ∧ okP l (a.drop s.c) n o) ∨
     (s.k = 3 ∧ s.c ≤ n.length ∧ s.c ≤ o.length ∧ o.take s.c = n.take s.c ∧ okP l a (n.drop s.c) (o.drop s.c)))
/-- The lines that are taken. -/
def newsOf : List St → List α → List α
  | [], _ => []
  | s :: l, b => if s.k = 1 then newsOf l (b.drop s.c) else if s.k = 2 then newsOf l b else b.take s.c ++ newsOf l (b.drop s.c)
theorem grp_tail (s : St) (l : List St) (h : grp (s :: l)) : 1 ≤ s.c ∧ grp l := by
  cases l with
  | nil => exact ⟨h, trivial⟩
  | cons t l => exact ⟨h.1, h.2.2⟩
theorem okP_of : ∀ (l : List St) (a b : List α), grp l → (∀ s ∈ l, 1 ≤ s.k ∧ s.k ≤ 3) → okK (expand l) a b → okP l a (newsOf l b) b
  | [], a, b, _, _, h => by
    obtain ⟨rfl, rfl⟩ := (show a = [] ∧ b = [] by cases a <;> cases b <;> simp [expand, okK] at h ⊢)
    exact ⟨rfl, rfl, rfl⟩
  | s :: l, a, b, hg, hk, h => by
    obtain ⟨h1, hg'⟩ := grp_tail s l hg
    have hk' : ∀ t ∈ l, 1 ≤ t.k ∧ t.k ≤ 3 := fun t ht => hk t (by simp [ht])
    have h3 := hk s (by simp)
    rw [expand_cons] at h
    refine ⟨h1, ?_⟩
    have hcase : s.k = 1 ∨ s.k = 2 ∨ s.k = 3 := by omega
    rcases hcase with e | e | e
    · rw [e] at h
      obtain ⟨b1, b2, b3, b4⟩ := ok_rep1 _ _ _ _ h
      refine .inl ⟨e, b1, b2, b3.symm, ?_⟩
      unfold newsOf; rw [if_pos e]
      exact okP_of l _ _ hg' hk' b4
    · rw [e] at h
      obtain ⟨b1, b4⟩ := ok_rep2 _ _ _ _ h
      refine .inr (.inl ⟨e, b1, ?_⟩)
      unfold newsOf; rw [if_neg (by omega), if_pos e]
      exact okP_of l _ _ hg' hk' b4
    · rw [e] at h
      obtain ⟨b1, b4⟩ := ok_rep3 _ _ _ _ h
      have hl : (b.take s.c).length = s.c := by rw [List.length_take]; omega
      refine .inr (.inr ⟨e, ?_, b1, ?_, ?_⟩)
      · unfold newsOf; rw [if_neg (by omega), if_neg (by omega), List.length_append, hl]; omega
      · unfold newsOf; rw [if_neg (by omega), if_neg (by omega), List.take_append_of_le_length (by omega), List.take_take, Nat.min_self]
      · unfold newsOf; rw [if_neg (by omega), if_neg (by omega)]
        have e4 : (b.take s.c ++ newsOf l (b.drop s.c)).drop s.c = newsOf l (b.drop s.c) := by
          have := List.drop_left (l₁ := b.take s.c) (l₂ := newsOf l (b.drop s.c))
          rwa [hl] at this
        rw [e4]
        exact okP_of l _ _ hg' hk' b4
end
/-- A slice of strings that lies below B. -/
def SRB (w : World) (B : Nat) (v : Value) (ss : List ByteArray) : Prop :=
  ∃ A c, v = .slice A ss.length c ∧ ss.length ≤ c ∧ c ≤ maxLen ∧ Reads w B 1 A ss.length (ss.map .string)
theorem SRB.below {w w' : World} {B : Nat} {v : Value} {ss : List ByteArray} (h : SRB w B v ss) (hb : Below B w w') : SRB w' B v ss := by
  obtain ⟨A, c, hv, hl, hc, hr⟩ := h
  exact ⟨A, c, hv, hl, hc, hr.below hb⟩
theorem SRB.of {w : World} {v : Value} {ss : List ByteArray} (h : SRow w v ss) : SRB w w.heap.size v ss := h
theorem SRB.plain {w : World} {B : Nat} {A : Option Addr} {n c : Nat} {ss : List ByteArray} (h : SRB w B (.slice A n c) ss) (hp : 0 < ss.length) : ∃ b o, A = some ⟨b, o, none⟩ := by
  obtain ⟨A', c', hv, hl, hc, hr⟩ := h
  injection hv with h1 h2 h3
  subst h1
  obtain ⟨b, o, rfl, _⟩ := hr.plain hp (by omega)
  exact ⟨b, o, rfl⟩
theorem SRB.zero {w : World} {B : Nat} (A : Option Addr) {ss : List ByteArray} (h : ss.length = 0) : SRB w B (.slice A 0 0) ss :=
  ⟨A, 0, by rw [h], by omega, by decide, ⟨by simp [h], fun hp => by omega⟩⟩
theorem SRB.drop {w : World} {B : Nat} {A : Option Addr} {c : Nat} {ss : List ByteArray} {k : Nat} (h : SRB w B (.slice A ss.length c) ss) (hk : k ≤ ss.length) : SRB w B (.slice (if c = k then A else A.map (·.add k)) (ss.length - k) (c - k)) (ss.drop k) := by
  obtain ⟨A', c', hv, hl, hc, hr⟩ := h
  injection hv with h1 h2 h3
  subst h1; subst h3
  have hlen : (ss.drop k).length = ss.length - k := by rw [List.length_drop]
  have hcut := hr.cut (k := k) (cap := c) hk hl
  simp only [Nat.mul_one] at hcut
  refine ⟨_, _, by rw [hlen], by rw [hlen]; omega, by omega, ?_⟩
  rw [hlen, List.map_drop]
  exact hcut
theorem SRB.head {w : World} {B : Nat} {A : Option Addr} {c : Nat} {ss : List ByteArray} {k : Nat} (h : SRB w B (.slice A ss.length c) ss) (hk : k ≤ ss.length) : Reads w B 1 A k ((ss.take k).map .string) := by
  obtain ⟨A', c', hv, hl, hc, hr⟩ := h
  injection hv with h1 h2 h3
  subst h1
  refine ⟨by simp; omega, fun hp => ?_⟩
  obtain ⟨ad, ha, hb, hcell⟩ := hr.2 (by omega)
  refine ⟨ad, ha, hb, fun j u hu => hcell j u ?_⟩
  rw [List.map_take, List.getElem?_take] at hu
  split at hu
  · exact hu
  · simp at hu

def PatchPost (o : List ByteArray) (w : World) (e : Ending) (w' : World) : Prop :=
  ∃ v, e = .returned (.tuple #[v, .int .i64 0]) ∧ SRow w' v o ∧ Below w.heap.size w w'
set_option maxRecDepth 100000 in
set_option maxHeartbeats 4000000 in
theorem patch_any (va vs vn : Value) (a n o : List ByteArray) (l : List St) (w : World) (ha : SRow w va a) (hs : CRow 2 stc w vs l) (hn : SRow w vn n) (hok : okP l a n o)
    (hla : a.length ≤ 80) (hln : n.length ≤ 80) (hll : l.length ≤ 200) (hlo : o.length ≤ 100) :
    Calls Try.prog 25 #[va, vs, vn] w (PatchPost o w) := by
  obtain ⟨iS, hi, hz0, hz1, hz2⟩ := info_parts string_info
  have Ha := Lib.hid (SRB.of ha)
  have Hn := Lib.hid (SRB.of hn)
  obtain ⟨A0, c0, rfl, hl0, hc0, hr0⟩ := ha
  obtain ⟨A1, c1, rfl, hl1, hc1, hr1⟩ := hn
  obtain ⟨A2, c2, rfl, hl2, hc2, hr2⟩ := hs
  have HS := Lib.hid hr2
  unfold maxLen at hc0 hc1 hc2
  have d1 : decide ((200 : Int) < (l.length : Int)) = false := by simp; omega
  have d2 : decide ((80 : Int) < (a.length : Int)) = false := by simp; omega
  have d3 : decide ((80 : Int) < (n.length : Int)) = false := by simp; omega
  clear hr0 hr1 hr2
  have HOK := Lib.hid hok
  clear hok
  go_enter Try.func25, Try.ntmps25
  go_wp2_with fail
  clear d1 d2 d3
  have B3 := (Blk.new w 44 #[.slice A0 a.length c0]).alloc (.cells #[.slice A1 n.length c1] 44)
  have B5 := Blk.new (w.alloc (.cells #[.slice A0 a.length c0] 44)) 44 #[.slice A1 n.length c1]
  rw [World.size_alloc] at B5
  have K0 := ((Below.refl w.heap.size w).alloc (Nat.le_refl _) (.cells #[.slice A0 a.length c0] 44)).alloc (by simp) (.cells #[.slice A1 n.length c1] 44)
  generalize (w.alloc (.cells #[.slice A0 a.length c0] 44)).alloc (.cells #[.slice A1 n.length c1] 44) = W0 at *
  go_loopw [8, 27] (fun ov iv wr => ∃ (i : Nat) (ra rn ro dn : List ByteArray) (xa xn : Value), i ≤ l.length ∧ iv = .int .i64 i ∧ Blk wr w.heap.size 44 #[xa] ∧ Blk wr (w.heap.size + 1) 44 #[xn] ∧ SRB wr w.heap.size xa ra ∧ SRB wr w.heap.size xn rn ∧ okP (l.drop i) ra rn ro ∧ o = dn ++ ro ∧ ra.length ≤ 80 ∧ rn.length ≤ 80 ∧ wr.ownsRow w.heap.size 9 1 ov dn.length (dn.map .string) ∧ Below w.heap.size w wr) (fun _ iv _ => l.length - (intOf iv).toNat)
  case atStart => exact ⟨0, a, n, o, [], _, _, Nat.zero_le _, rfl, B3, B5, Ha.out.below K0, Hn.out.below K0, HOK.out, rfl, hla, hln, World.ownsRow_nil _ _ _ _, K0⟩
  case round =>
    obtain ⟨i, ra, rn, ro, dn, xa, xn, hil, rfl, HB3, HB5, hra, hrn, hok, ho, hza, hzn, hown, hbel⟩ := hrel
    have HO := Lib.hid ho
    clear ho B3 B5 K0
    obtain ⟨A3, c3, hv3, hl3, hc3, -⟩ := id hra
    subst hv3
    obtain ⟨A5, c5, hv5, hl5, hc5, -⟩ := id hrn
    subst hv5
    unfold maxLen at hc3 hc5
    have z3 := HB3.cell 0
    have z5 := HB5.cell 0
    have f3 := HB3.frozen 0
    have f5 := HB5.frozen 0
    simp at z3 z5
    by_cases hlt : i < l.length
    · obtain ⟨bs, os, rfl, hbs, sc⟩ := CRow.at_ stc_len (by omega) (HS.out.below hbel) hlt
      have s0 := sc 0 _ rfl
      have s1 := sc 1 _ rfl
      simp only [Nat.add_zero] at s0
      rw [← Nat.add_assoc] at s1
      rw [List.drop_eq_getElem_cons hlt] at hok
      generalize l[i] = st at *
      obtain ⟨k, c⟩ := st
      obtain ⟨hc1', hcase⟩ := hok
      simp only at hc1' hcase s0 s1
      clear sc
      have HCA := Lib.hid hcase
      have hk9 : (k = 1 ∧ c ≤ ra.length) ∨ (k = 2 ∧ c ≤ ra.length) ∨ (k = 3 ∧ c ≤ rn.length) := by
        rcases hcase with ⟨rfl, h1, _⟩ | ⟨rfl, h1, _⟩ | ⟨rfl, h1, _⟩
        · exact .inl ⟨rfl, h1⟩
        · exact .inr (.inl ⟨rfl, h1⟩)
        · exact .inr (.inr ⟨rfl, h1⟩)
      have w35 : w.heap.size ≠ w.heap.size + 1 := by omega
      have w53 : w.heap.size + 1 ≠ w.heap.size := by omega
      have hsz : w.heap.size ≤ wr.heap.size := hbel.size
      clear hcase hbs
      rcases hk9 with ⟨rfl, h1⟩ | ⟨rfl, h1⟩ | ⟨rfl, h1⟩
      · obtain ⟨bA, oA, rfl⟩ := hra.plain (by omega)
        have hcc : c ≤ 80 := by omega
        replace s0 : wr.cell? ⟨bs, os + i * 2, none⟩ = some (.int .i64 1) := s0
        have T := Two.new wr (.int .i64 1) (.int .i64 (c : Int)) 50
        have G3 := HB3.alloc (.cells #[.int .i64 1, .int .i64 (c : Int)] 50)
        have G5 := HB5.alloc (.cells #[.int .i64 1, .int .i64 (c : Int)] 50)
        have hba := hbel.alloc hbel.size (.cells #[.int .i64 1, .int .i64 (c : Int)] 50)
        have hbx : Below w.heap.size wr (wr.alloc (.cells #[.int .i64 1, .int .i64 (c : Int)] 50)) := (Below.refl _ _).alloc hbel.size _
        have oa := hown.alloc (.cells #[.int .i64 1, .int .i64 (c : Int)] 50)
        have za := hra.below hbx
        have zn := hrn.below hbx
        have g3 := G3.cell 0
        have g5 := G5.cell 0
        have q3 := G3.frozen 0
        have q5 := G5.frozen 0
        simp at g3 g5
        clear HB3 HB5 hbel hown hra hrn hbx z3 z5 f3 f5
        have GS := Blk.new wr 50 #[.int .i64 1, .int .i64 (c : Int)]
        have HG3 := Lib.hid G3
        have HG5 := Lib.hid G5
        have HGS := Lib.hid GS
        clear G3 G5 GS
        obtain ⟨T9, T0, T1⟩ := T
        have HBA := Lib.hid hba
        have HOA := Lib.hid oa
        have HZA := Lib.hid za
        have HZN := Lib.hid zn
        clear hba oa za zn
        have y0 : decide (ra.length < c) = false := by simp; omega
        go_wp2_with fail
        go_quiet (fail)
        go_wp2_with fail
        have yc : (c : Int) ≤ (c3 : Int) := by omega
        have yc2 : c ≤ c3 := by omega
        have yc0 : (0 : Int) ≤ (c : Int) := by omega
        have O1 := own_below HOA.out (below_drewN (below_drewN (Below.refl _ _) nq) 1)
        have G3' := (HG3.out.drewN nq).drewN 1
        have G5' := (HG5.out.drewN nq).drewN 1
        have GS' := (HGS.out.drewN nq).drewN 1
        have ZA' := SRB.below HZA.out (below_drewN (below_drewN (Below.refl _ _) nq) 1)
        have ZN' := SRB.below HZN.out (below_drewN (below_drewN (Below.refl _ _) nq) 1)
        have KB' := below_drewN (below_drewN HBA.out nq) 1
        have HO1 := Lib.hid O1
        have HG3' := Lib.hid G3'
        have HG5' := Lib.hid G5'
        have HGS' := Lib.hid GS'
        have HZA' := Lib.hid ZA'
        have HZN' := Lib.hid ZN'
        have HKB' := Lib.hid KB'
        clear O1 G3' G5' GS' ZA' ZN' KB' HOA HG3 HG5 HGS HZA HZN HBA
        refine wp_region_still_tail 7 (by kernel_rfl) (by kernel_rfl) ?_
        change wpStill _ _ (((wr.alloc (.cells #[.int .i64 1, .int .i64 (c : Int)] 50)).drewN nq).drewN 1) _ _ _
        generalize hWE : ((wr.alloc (.cells #[.int .i64 1, .int .i64 (c : Int)] 50)).drewN nq).drewN 1 = W at *
        have HWE := Lib.hid hWE
        clear hWE
        generalize wr.heap.size = gs at *
        clear s0 s1 T0 T1 g3 g5 q3 q5
        simp only [List.take_succ_cons, List.take_zero, List.drop_succ_cons, List.drop_zero]
        have b3 := HG3'.out.cell 0
        have b5 := HG5'.out.cell 0
        have b1 := HGS'.out.cell 1
        simp at b3 b5 b1
        repeat still_step
        refine wpStill_nil ?_
        change wpList _ _ _ _ _ (((wr.alloc (.cells #[.int .i64 1, .int .i64 (c : Int)] 50)).drewN nq).drewN 1)
        rw [HWE.out]
        have hrd := SRB.head HZA'.out h1
        have hdl : dn.length ≤ 100 := by have := congrArg List.length HO.out; simp at this; omega
        go_wp2_with (at_builtin; refine wpList_append_any _ rfl (.tmp 63) (.tmp 69) _ rfl w.heap.size 9 iS _ 1 16 Try.underlying44 hi hz0 hz1 hz2 rfl (by decide) u8 dn.length (dn.map .string) rfl HO1.out w.heap.size _ c _ ((ra.take c).map .string) rfl hrd (strs_one _) (by unfold maxLen; omega) (by omega) HKB'.out.size ?_)
        intro v9 w9 own9 g9 _
        have ne3 := own_blk_ne HO1.out HG3'.out (by decide)
        have ne5 := own_blk_ne HO1.out HG5'.out (by decide)
        have neS := own_blk_ne HO1.out HGS'.out (by decide)
        have k9 : Below w.heap.size W w9 := (Below.refl _ _).grown g9 HKB'.out.size (fun g hg => (HO1.out.lt g hg).1)
        have KB9 := Lib.hid (HKB'.out.trans k9)
        have HG9 := Lib.hid (HG3'.out.grown g9 (Ne.symm ne3))
        have HH9 := Lib.hid (HG5'.out.grown g9 (Ne.symm ne5))
        have HS9 := Lib.hid (HGS'.out.grown g9 (Ne.symm neS))
        have HZA9 := Lib.hid (HZA'.out.below k9)
        have HZN9 := Lib.hid (HZN'.out.below k9)
        have HO9 := Lib.hid own9
        clear own9 g9 k9 ne3 ne5 neS hrd b3 b5 b1 HO1 HG3' HG5' HGS' HZA' HZN' HKB'
        go_wp2_with fail
        have hq : o = (dn ++ ra.take c) ++ ro.drop c ∧ okP (l.drop (i + 1)) (ra.drop c) rn (ro.drop c) := by
          rcases HCA.out with ⟨_, q1, q2, q3, q4⟩ | ⟨h, _⟩ | ⟨h, _⟩
          · refine ⟨?_, q4⟩
            rw [← q3, List.append_assoc, List.take_append_drop]; exact HO.out
          · omega
          · omega
        obtain ⟨dn9, hdn9⟩ : ∃ d, d = dn ++ ra.take c := ⟨_, rfl⟩
        have hl9 : dn9.length = dn.length + c := by rw [hdn9]; simp; omega
        have hm9 : dn9.map Value.string = dn.map .string ++ (ra.map Value.string).take c := by rw [hdn9, List.map_append, List.map_take]
        have HO9' := HO9.out
        rw [← hl9, ← hm9] at HO9'
        rw [← hdn9] at hq
        clear HO9
        have HO9 := Lib.hid HO9'
        have HQ := Lib.hid hq
        clear hq HCA HO HO9' hl9 hm9 hdn9
        rcases Nat.eq_or_lt_of_le yc2 with hcq | hcq
        · subst hcq
          have E3 := Lib.hid (HG9.out.drewN 1)
          have E5 := Lib.hid (HH9.out.drewN 1)
          have ES := Lib.hid (HS9.out.drewN 1)
          have EZ := Lib.hid (SRB.below HZA9.out (below_drewN (Below.refl _ _) 1))
          have EY := Lib.hid (SRB.below HZN9.out (below_drewN (Below.refl _ _) 1))
          have EK := Lib.hid (below_drewN KB9.out 1)
          have EO := Lib.hid (own_below HO9.out (below_drewN (Below.refl _ _) 1))
          clear HG9 HH9 HS9 HZA9 HZN9 KB9 HO9
          refine wp_region_still_tail 8 (by kernel_rfl) (by kernel_rfl) ?_
          change wpStill _ _ (w9.drewN 1) _ _ _
          generalize hWE : w9.drewN 1 = V at *
          have HWV := Lib.hid hWE
          clear hWE
          simp only [List.take_succ_cons, List.take_zero, List.drop_succ_cons, List.drop_zero]
          have b3 := E3.out.cell 0
          have b1 := ES.out.cell 1
          have f3 := E3.out.frozen 0
          simp at b3 b1
          repeat still_step
          refine wpStill_nil ?_
          change wpList _ _ _ _ _ (w9.drewN 1)
          rw [HWV.out]
          go_wp2_with fail
          have zb : Below w.heap.size V (V.setCell ⟨w.heap.size, 0, none⟩ (.slice (some ⟨bA, oA, none⟩) 0 0)) := (Below.refl w.heap.size V).setCell (p := ⟨w.heap.size, 0, none⟩) (Nat.le_refl w.heap.size) _
          have S3 := E3.out.set_ 0 (.slice (some ⟨bA, oA, none⟩) 0 0)
          have S5 := E5.out.far (p := ⟨w.heap.size, 0, none⟩) (by simp) (.slice (some ⟨bA, oA, none⟩) 0 0)
          have SO := own_far EO.out ⟨w.heap.size, 0, none⟩ (.slice (some ⟨bA, oA, none⟩) 0 0) (own_blk_ne EO.out E3.out (by decide))
          have ZB := SRB.below (SRB.zero (w := V) (B := w.heap.size) (some ⟨bA, oA, none⟩) (show (ra.drop c).length = 0 by rw [List.length_drop]; omega)) zb
          go_roundw
          case rel =>
            refine ⟨i + 1, ra.drop c, rn, ro.drop c, dn9, _, _, by omega, by go_num, S3, S5, ZB, EY.out.below zb, HQ.out.2, HQ.out.1, by simp; omega, hzn, SO, EK.out.trans zb⟩
          case measure => simp [intOf]; omega
        · have hne : ¬ c3 = c := by omega
          have E3 := Lib.hid (HG9.out.drewN 1)
          have E5 := Lib.hid (HH9.out.drewN 1)
          have ES := Lib.hid (HS9.out.drewN 1)
          have EZ := Lib.hid (SRB.below HZA9.out (below_drewN (Below.refl _ _) 1))
          have EY := Lib.hid (SRB.below HZN9.out (below_drewN (Below.refl _ _) 1))
          have EK := Lib.hid (below_drewN KB9.out 1)
          have EO := Lib.hid (own_below HO9.out (below_drewN (Below.refl _ _) 1))
          clear HG9 HH9 HS9 HZA9 HZN9 KB9 HO9
          refine wp_region_still_tail 8 (by kernel_rfl) (by kernel_rfl) ?_
          change wpStill _ _ (w9.drewN 1) _ _ _
          generalize hWE : w9.drewN 1 = V at *
          have HWV := Lib.hid hWE
          clear hWE
          simp only [List.take_succ_cons, List.take_zero, List.drop_succ_cons, List.drop_zero]
          have b3 := E3.out.cell 0
          have b1 := ES.out.cell 1
          have f3 := E3.out.frozen 0
          simp at b3 b1
          repeat still_step
          refine wpStill_nil ?_
          change wpList _ _ _ _ _ (w9.drewN 1)
          rw [HWV.out]
          go_wp2_with fail
          have zz := EZ.out.drop (k := c) h1
          rw [if_neg hne] at zz
          simp only [Option.map_some, add_plain] at zz
          have zb : Below w.heap.size V (V.setCell ⟨w.heap.size, 0, none⟩ (.slice (some ⟨bA, oA + c, none⟩) (ra.length - c) (c3 - c))) := (Below.refl w.heap.size V).setCell (p := ⟨w.heap.size, 0, none⟩) (Nat.le_refl w.heap.size) _
          have S3 := E3.out.set_ 0 (.slice (some ⟨bA, oA + c, none⟩) (ra.length - c) (c3 - c))
          have S5 := E5.out.far (p := ⟨w.heap.size, 0, none⟩) (by simp) (.slice (some ⟨bA, oA + c, none⟩) (ra.length - c) (c3 - c))
          have SO := own_far EO.out ⟨w.heap.size, 0, none⟩ (.slice (some ⟨bA, oA + c, none⟩) (ra.length - c) (c3 - c)) (own_blk_ne EO.out E3.out (by decide))
          have ZB := SRB.below (zz) zb
          go_roundw
          case rel =>
            refine ⟨i + 1, ra.drop c, rn, ro.drop c, dn9, _, _, by omega, by go_num, S3, S5, ZB, EY.out.below zb, HQ.out.2, HQ.out.1, by simp; omega, hzn, SO, EK.out.trans zb⟩
          case measure => simp [intOf]; omega
      · obtain ⟨bA, oA, rfl⟩ := hra.plain (by omega)
        have hcc : c ≤ 80 := by omega
        replace s0 : wr.cell? ⟨bs, os + i * 2, none⟩ = some (.int .i64 2) := s0
        have T := Two.new wr (.int .i64 2) (.int .i64 (c : Int)) 50
        have G3 := HB3.alloc (.cells #[.int .i64 2, .int .i64 (c : Int)] 50)
        have G5 := HB5.alloc (.cells #[.int .i64 2, .int .i64 (c : Int)] 50)
        have hba := hbel.alloc hbel.size (.cells #[.int .i64 2, .int .i64 (c : Int)] 50)
        have hbx : Below w.heap.size wr (wr.alloc (.cells #[.int .i64 2, .int .i64 (c : Int)] 50)) := (Below.refl _ _).alloc hbel.size _
        have oa := hown.alloc (.cells #[.int .i64 2, .int .i64 (c : Int)] 50)
        have za := hra.below hbx
        have zn := hrn.below hbx
        have g3 := G3.cell 0
        have g5 := G5.cell 0
        have q3 := G3.frozen 0
        have q5 := G5.frozen 0
        simp at g3 g5
        clear HB3 HB5 hbel hown hra hrn hbx z3 z5 f3 f5
        have GS := Blk.new wr 50 #[.int .i64 2, .int .i64 (c : Int)]
        have HG3 := Lib.hid G3
        have HG5 := Lib.hid G5
        have HGS := Lib.hid GS
        clear G3 G5 GS
        obtain ⟨T9, T0, T1⟩ := T
        have HBA := Lib.hid hba
        have HOA := Lib.hid oa
        have HZA := Lib.hid za
        have HZN := Lib.hid zn
        clear hba oa za zn
        have y0 : decide (ra.length < c) = false := by simp; omega
        have yc : (c : Int) ≤ (c3 : Int) := by omega
        have yc2 : c ≤ c3 := by omega
        have yc0 : (0 : Int) ≤ (c : Int) := by omega
        go_wp2_with fail
        go_quiet (fail)
        go_wp2_with fail
        have hq : o = dn ++ ro ∧ okP (l.drop (i + 1)) (ra.drop c) rn ro := by
          rcases HCA.out with ⟨h, _⟩ | ⟨_, q1, q4⟩ | ⟨h, _⟩
          · omega
          · exact ⟨HO.out, q4⟩
          · omega
        obtain ⟨dn9, hdn9⟩ : ∃ d, d = dn := ⟨_, rfl⟩
        have HG9 := Lib.hid (HG3.out.drewN nq)
        have HH9 := Lib.hid (HG5.out.drewN nq)
        have HS9 := Lib.hid (HGS.out.drewN nq)
        have HZA9 := Lib.hid (SRB.below HZA.out (below_drewN (Below.refl _ _) nq))
        have HZN9 := Lib.hid (SRB.below HZN.out (below_drewN (Below.refl _ _) nq))
        have KB9 := Lib.hid (below_drewN HBA.out nq)
        have HO9 := Lib.hid (own_below HOA.out (below_drewN (Below.refl _ _) nq))
        rw [← hdn9] at hq HO9
        have HQ := Lib.hid hq
        clear hq HCA HO hdn9 HOA HG3 HG5 HGS HZA HZN HBA s0 s1 T0 T1 g3 g5 q3 q5
        generalize (wr.alloc (.cells #[.int .i64 2, .int .i64 (c : Int)] 50)).drewN nq = w9 at *
        generalize wr.heap.size = gs at *
        rcases Nat.eq_or_lt_of_le yc2 with hcq | hcq
        · subst hcq
          have E3 := Lib.hid (HG9.out.drewN 1)
          have E5 := Lib.hid (HH9.out.drewN 1)
          have ES := Lib.hid (HS9.out.drewN 1)
          have EZ := Lib.hid (SRB.below HZA9.out (below_drewN (Below.refl _ _) 1))
          have EY := Lib.hid (SRB.below HZN9.out (below_drewN (Below.refl _ _) 1))
          have EK := Lib.hid (below_drewN KB9.out 1)
          have EO := Lib.hid (own_below HO9.out (below_drewN (Below.refl _ _) 1))
          clear HG9 HH9 HS9 HZA9 HZN9 KB9 HO9
          refine wp_region_still_tail 8 (by kernel_rfl) (by kernel_rfl) ?_
          change wpStill _ _ (w9.drewN 1) _ _ _
          generalize hWE : w9.drewN 1 = V at *
          have HWV := Lib.hid hWE
          clear hWE
          simp only [List.take_succ_cons, List.take_zero, List.drop_succ_cons, List.drop_zero]
          have b3 := E3.out.cell 0
          have b1 := ES.out.cell 1
          have f3 := E3.out.frozen 0
          simp at b3 b1
          repeat still_step
          refine wpStill_nil ?_
          change wpList _ _ _ _ _ (w9.drewN 1)
          rw [HWV.out]
          go_wp2_with fail
          have zb : Below w.heap.size V (V.setCell ⟨w.heap.size, 0, none⟩ (.slice (some ⟨bA, oA, none⟩) 0 0)) := (Below.refl w.heap.size V).setCell (p := ⟨w.heap.size, 0, none⟩) (Nat.le_refl w.heap.size) _
          have S3 := E3.out.set_ 0 (.slice (some ⟨bA, oA, none⟩) 0 0)
          have S5 := E5.out.far (p := ⟨w.heap.size, 0, none⟩) (by simp) (.slice (some ⟨bA, oA, none⟩) 0 0)
          have SO := own_far EO.out ⟨w.heap.size, 0, none⟩ (.slice (some ⟨bA, oA, none⟩) 0 0) (own_blk_ne EO.out E3.out (by decide))
          have ZB := SRB.below (SRB.zero (w := V) (B := w.heap.size) (some ⟨bA, oA, none⟩) (show (ra.drop c).length = 0 by rw [List.length_drop]; omega)) zb
          go_roundw
          case rel =>
            refine ⟨i + 1, ra.drop c, rn, ro, dn9, _, _, by omega, by go_num, S3, S5, ZB, EY.out.below zb, HQ.out.2, HQ.out.1, by simp; omega, hzn, SO, EK.out.trans zb⟩
          case measure => simp [intOf]; omega
        · have hne : ¬ c3 = c := by omega
          have E3 := Lib.hid (HG9.out.drewN 1)
          have E5 := Lib.hid (HH9.out.drewN 1)
          have ES := Lib.hid (HS9.out.drewN 1)
          have EZ := Lib.hid (SRB.below HZA9.out (below_drewN (Below.refl _ _) 1))
          have EY := Lib.hid (SRB.below HZN9.out (below_drewN (Below.refl _ _) 1))
          have EK := Lib.hid (below_drewN KB9.out 1)
          have EO := Lib.hid (own_below HO9.out (below_drewN (Below.refl _ _) 1))
          clear HG9 HH9 HS9 HZA9 HZN9 KB9 HO9
          refine wp_region_still_tail 8 (by kernel_rfl) (by kernel_rfl) ?_
          change wpStill _ _ (w9.drewN 1) _ _ _
          generalize hWE : w9.drewN 1 = V at *
          have HWV := Lib.hid hWE
          clear hWE
          simp only [List.take_succ_cons, List.take_zero, List.drop_succ_cons, List.drop_zero]
          have b3 := E3.out.cell 0
          have b1 := ES.out.cell 1
          have f3 := E3.out.frozen 0
          simp at b3 b1
          repeat still_step
          refine wpStill_nil ?_
          change wpList _ _ _ _ _ (w9.drewN 1)
          rw [HWV.out]
          go_wp2_with fail
          have zz := EZ.out.drop (k := c) h1
          rw [if_neg hne] at zz
          simp only [Option.map_some, add_plain] at zz
          have zb : Below w.heap.size V (V.setCell ⟨w.heap.size, 0, none⟩ (.slice (some ⟨bA, oA + c, none⟩) (ra.length - c) (c3 - c))) := (Below.refl w.heap.size V).setCell (p := ⟨w.heap.size, 0, none⟩) (Nat.le_refl w.heap.size) _
          have S3 := E3.out.set_ 0 (.slice (some ⟨bA, oA + c, none⟩) (ra.length - c) (c3 - c))
          have S5 := E5.out.far (p := ⟨w.heap.size, 0, none⟩) (by simp) (.slice (some ⟨bA, oA + c, none⟩) (ra.length - c) (c3 - c))
          have SO := own_far EO.out ⟨w.heap.size, 0, none⟩ (.slice (some ⟨bA, oA + c, none⟩) (ra.length - c) (c3 - c)) (own_blk_ne EO.out E3.out (by decide))
          have ZB := SRB.below (zz) zb
          go_roundw
          case rel =>
            refine ⟨i + 1, ra.drop c, rn, ro, dn9, _, _, by omega, by go_num, S3, S5, ZB, EY.out.below zb, HQ.out.2, HQ.out.1, by simp; omega, hzn, SO, EK.out.trans zb⟩
          case measure => simp [intOf]; omega
      · obtain ⟨bA, oA, rfl⟩ := hrn.plain (by omega)
        have hcc : c ≤ 80 := by omega
        replace s0 : wr.cell? ⟨bs, os + i * 2, none⟩ = some (.int .i64 3) := s0
        have T := Two.new wr (.int .i64 3) (.int .i64 (c : Int)) 50
        have G3 := HB3.alloc (.cells #[.int .i64 3, .int .i64 (c : Int)] 50)
        have G5 := HB5.alloc (.cells #[.int .i64 3, .int .i64 (c : Int)] 50)
        have hba := hbel.alloc hbel.size (.cells #[.int .i64 3, .int .i64 (c : Int)] 50)
        have hbx : Below w.heap.size wr (wr.alloc (.cells #[.int .i64 3, .int .i64 (c : Int)] 50)) := (Below.refl _ _).alloc hbel.size _
        have oa := hown.alloc (.cells #[.int .i64 3, .int .i64 (c : Int)] 50)
        have za := hra.below hbx
        have zn := hrn.below hbx
        have g3 := G3.cell 0
        have g5 := G5.cell 0
        have q3 := G3.frozen 0
        have q5 := G5.frozen 0
        simp at g3 g5
        clear HB3 HB5 hbel hown hra hrn hbx z3 z5 f3 f5
        have GS := Blk.new wr 50 #[.int .i64 3, .int .i64 (c : Int)]
        have HG3 := Lib.hid G3
        have HG5 := Lib.hid G5
        have HGS := Lib.hid GS
        clear G3 G5 GS
        obtain ⟨T9, T0, T1⟩ := T
        have HBA := Lib.hid hba
        have HOA := Lib.hid oa
        have HZA := Lib.hid za
        have HZN := Lib.hid zn
        clear hba oa za zn
        have y0 : decide (rn.length < c) = false := by simp; omega
        have yc : (c : Int) ≤ (c5 : Int) := by omega
        have yc2 : c ≤ c5 := by omega
        have yc0 : (0 : Int) ≤ (c : Int) := by omega
        go_wp2_with fail
        go_quiet (fail)
        go_wp2_with fail
        have O1 := own_below HOA.out (below_drewN (below_drewN (Below.refl _ _) nq) 1)
        have G3' := (HG3.out.drewN nq).drewN 1
        have G5' := (HG5.out.drewN nq).drewN 1
        have GS' := (HGS.out.drewN nq).drewN 1
        have ZA' := SRB.below HZA.out (below_drewN (below_drewN (Below.refl _ _) nq) 1)
        have ZN' := SRB.below HZN.out (below_drewN (below_drewN (Below.refl _ _) nq) 1)
        have KB' := below_drewN (below_drewN HBA.out nq) 1
        have HO1 := Lib.hid O1
        have HG3' := Lib.hid G3'
        have HG5' := Lib.hid G5'
        have HGS' := Lib.hid GS'
        have HZA' := Lib.hid ZA'
        have HZN' := Lib.hid ZN'
        have HKB' := Lib.hid KB'
        clear O1 G3' G5' GS' ZA' ZN' KB' HOA HG3 HG5 HGS HZA HZN HBA
        refine wp_region_still_tail 7 (by kernel_rfl) (by kernel_rfl) ?_
        change wpStill _ _ (((wr.alloc (.cells #[.int .i64 3, .int .i64 (c : Int)] 50)).drewN nq).drewN 1) _ _ _
        generalize hWE : ((wr.alloc (.cells #[.int .i64 3, .int .i64 (c : Int)] 50)).drewN nq).drewN 1 = W at *
        have HWE := Lib.hid hWE
        clear hWE
        generalize wr.heap.size = gs at *
        clear s0 s1 T0 T1 g3 g5 q3 q5
        simp only [List.take_succ_cons, List.take_zero, List.drop_succ_cons, List.drop_zero]
        have b3 := HG3'.out.cell 0
        have b5 := HG5'.out.cell 0
        have b1 := HGS'.out.cell 1
        simp at b3 b5 b1
        repeat still_step
        refine wpStill_nil ?_
        change wpList _ _ _ _ _ (((wr.alloc (.cells #[.int .i64 3, .int .i64 (c : Int)] 50)).drewN nq).drewN 1)
        rw [HWE.out]
        have hrd := SRB.head HZN'.out h1
        have hdl : dn.length ≤ 100 := by have := congrArg List.length HO.out; simp at this; omega
        go_wp2_with (at_builtin; refine wpList_append_any _ rfl (.tmp 63) (.tmp 69) _ rfl w.heap.size 9 iS _ 1 16 Try.underlying44 hi hz0 hz1 hz2 rfl (by decide) u8 dn.length (dn.map .string) rfl HO1.out w.heap.size _ c _ ((rn.take c).map .string) rfl hrd (strs_one _) (by unfold maxLen; omega) (by omega) HKB'.out.size ?_)
        intro v9 w9 own9 g9 _
        have ne3 := own_blk_ne HO1.out HG3'.out (by decide)
        have ne5 := own_blk_ne HO1.out HG5'.out (by decide)
        have neS := own_blk_ne HO1.out HGS'.out (by decide)
        have k9 : Below w.heap.size W w9 := (Below.refl _ _).grown g9 HKB'.out.size (fun g hg => (HO1.out.lt g hg).1)
        have KB9 := Lib.hid (HKB'.out.trans k9)
        have HG9 := Lib.hid (HG3'.out.grown g9 (Ne.symm ne3))
        have HH9 := Lib.hid (HG5'.out.grown g9 (Ne.symm ne5))
        have HS9 := Lib.hid (HGS'.out.grown g9 (Ne.symm neS))
        have HZA9 := Lib.hid (HZA'.out.below k9)
        have HZN9 := Lib.hid (HZN'.out.below k9)
        have HO9 := Lib.hid own9
        clear own9 g9 k9 ne3 ne5 neS hrd b3 b5 b1 HO1 HG3' HG5' HGS' HZA' HZN' HKB'
        go_wp2_with fail
        have hq : o = (dn ++ rn.take c) ++ ro.drop c ∧ okP (l.drop (i + 1)) ra (rn.drop c) (ro.drop c) := by
          rcases HCA.out with ⟨h, _⟩ | ⟨h, _⟩ | ⟨_, q1, q2, q3, q4⟩
          · omega
          · omega
          · refine ⟨?_, q4⟩
            rw [← q3, List.append_assoc, List.take_append_drop]; exact HO.out
        obtain ⟨dn9, hdn9⟩ : ∃ d, d = dn ++ rn.take c := ⟨_, rfl⟩
        have hl9 : dn9.length = dn.length + c := by rw [hdn9]; simp; omega
        have hm9 : dn9.map Value.string = dn.map .string ++ (rn.map Value.string).take c := by rw [hdn9, List.map_append, List.map_take]
        have HO9' := HO9.out
        rw [← hl9, ← hm9] at HO9'
        rw [← hdn9] at hq
        clear HO9
        have HO9 := Lib.hid HO9'
        have HQ := Lib.hid hq
        clear hq HCA HO HO9' hl9 hm9 hdn9
        rcases Nat.eq_or_lt_of_le yc2 with hcq | hcq
        · subst hcq
          have E3 := Lib.hid (HH9.out.drewN 1)
          have E5 := Lib.hid (HG9.out.drewN 1)
          have ES := Lib.hid (HS9.out.drewN 1)
          have EZ := Lib.hid (SRB.below HZN9.out (below_drewN (Below.refl _ _) 1))
          have EY := Lib.hid (SRB.below HZA9.out (below_drewN (Below.refl _ _) 1))
          have EK := Lib.hid (below_drewN KB9.out 1)
          have EO := Lib.hid (own_below HO9.out (below_drewN (Below.refl _ _) 1))
          clear HH9 HG9 HS9 HZN9 HZA9 KB9 HO9
          refine wp_region_still_tail 8 (by kernel_rfl) (by kernel_rfl) ?_
          change wpStill _ _ (w9.drewN 1) _ _ _
          generalize hWE : w9.drewN 1 = V at *
          have HWV := Lib.hid hWE
          clear hWE
          simp only [List.take_succ_cons, List.take_zero, List.drop_succ_cons, List.drop_zero]
          have b3 := E3.out.cell 0
          have b1 := ES.out.cell 1
          have f3 := E3.out.frozen 0
          simp at b3 b1
          repeat still_step
          refine wpStill_nil ?_
          change wpList _ _ _ _ _ (w9.drewN 1)
          rw [HWV.out]
          go_wp2_with fail
          have zb : Below w.heap.size V (V.setCell ⟨w.heap.size + 1, 0, none⟩ (.slice (some ⟨bA, oA, none⟩) 0 0)) := (Below.refl w.heap.size V).setCell (p := ⟨w.heap.size + 1, 0, none⟩) (Nat.le_succ w.heap.size) _
          have S5 := E3.out.set_ 0 (.slice (some ⟨bA, oA, none⟩) 0 0)
          have S3 := E5.out.far (p := ⟨w.heap.size + 1, 0, none⟩) (by simp) (.slice (some ⟨bA, oA, none⟩) 0 0)
          have SO := own_far EO.out ⟨w.heap.size + 1, 0, none⟩ (.slice (some ⟨bA, oA, none⟩) 0 0) (own_blk_ne EO.out E3.out (by decide))
          have ZB := SRB.below (SRB.zero (w := V) (B := w.heap.size) (some ⟨bA, oA, none⟩) (show (rn.drop c).length = 0 by rw [List.length_drop]; omega)) zb
          go_roundw
          case rel =>
            refine ⟨i + 1, ra, rn.drop c, ro.drop c, dn9, _, _, by omega, by go_num, S3, S5, EY.out.below zb, ZB, HQ.out.2, HQ.out.1, hza, by simp; omega, SO, EK.out.trans zb⟩
          case measure => simp [intOf]; omega
        · have hne : ¬ c5 = c := by omega
          have E3 := Lib.hid (HH9.out.drewN 1)
          have E5 := Lib.hid (HG9.out.drewN 1)
          have ES := Lib.hid (HS9.out.drewN 1)
          have EZ := Lib.hid (SRB.below HZN9.out (below_drewN (Below.refl _ _) 1))
          have EY := Lib.hid (SRB.below HZA9.out (below_drewN (Below.refl _ _) 1))
          have EK := Lib.hid (below_drewN KB9.out 1)
          have EO := Lib.hid (own_below HO9.out (below_drewN (Below.refl _ _) 1))
          clear HH9 HG9 HS9 HZN9 HZA9 KB9 HO9
          refine wp_region_still_tail 8 (by kernel_rfl) (by kernel_rfl) ?_
          change wpStill _ _ (w9.drewN 1) _ _ _
          generalize hWE : w9.drewN 1 = V at *
          have HWV := Lib.hid hWE
          clear hWE
          simp only [List.take_succ_cons, List.take_zero, List.drop_succ_cons, List.drop_zero]
          have b3 := E3.out.cell 0
          have b1 := ES.out.cell 1
          have f3 := E3.out.frozen 0
          simp at b3 b1
          repeat still_step
          refine wpStill_nil ?_
          change wpList _ _ _ _ _ (w9.drewN 1)
          rw [HWV.out]
          go_wp2_with fail
          have zz := EZ.out.drop (k := c) h1
          rw [if_neg hne] at zz
          simp only [Option.map_some, add_plain] at zz
          have zb : Below w.heap.size V (V.setCell ⟨w.heap.size + 1, 0, none⟩ (.slice (some ⟨bA, oA + c, none⟩) (rn.length - c) (c5 - c))) := (Below.refl w.heap.size V).setCell (p := ⟨w.heap.size + 1, 0, none⟩) (Nat.le_succ w.heap.size) _
          have S5 := E3.out.set_ 0 (.slice (some ⟨bA, oA + c, none⟩) (rn.length - c) (c5 - c))
          have S3 := E5.out.far (p := ⟨w.heap.size + 1, 0, none⟩) (by simp) (.slice (some ⟨bA, oA + c, none⟩) (rn.length - c) (c5 - c))
          have SO := own_far EO.out ⟨w.heap.size + 1, 0, none⟩ (.slice (some ⟨bA, oA + c, none⟩) (rn.length - c) (c5 - c)) (own_blk_ne EO.out E3.out (by decide))
          have ZB := SRB.below (zz) zb
          go_roundw
          case rel =>
            refine ⟨i + 1, ra, rn.drop c, ro.drop c, dn9, _, _, by omega, by go_num, S3, S5, EY.out.below zb, ZB, HQ.out.2, HQ.out.1, hza, by simp; omega, SO, EK.out.trans zb⟩
          case measure => simp [intOf]; omega
    · obtain rfl : i = l.length := by omega
      rw [List.drop_length] at hok
      obtain ⟨rfl, rfl, rfl⟩ := hok
      have HO2 := Lib.hid (show o = dn by rw [HO.out, List.append_nil])
      have HW := Lib.hid hown
      simp only [List.length_nil] at z3 z5
      go_wp2_with fail
      go_ret2
      exact ⟨_, rfl, by rw [HO2.out]; exact SRow.of_own HW.out, hbel⟩
end Go.Proofs.Ytpbpdglabeoehaa
