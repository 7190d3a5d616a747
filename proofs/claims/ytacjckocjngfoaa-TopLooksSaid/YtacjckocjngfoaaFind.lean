/-
  The walks of find.border, find.In, find.fault, find.All, find.Border, sameInts, findSure: where a text stands in another one. Nothing that was there is changed.
-/
import Derived.Test.YtacjckocjngfoaaPick
import Derived.Handy
import Derived.Test.YtacjckocjngfoaaSame
import Derived.Test.YtacjckocjngfoaaCopy
import Derived.Test.YtacjckocjngfoaaFindP
import Derived.BigQuiet
import Derived.Deep.QuietTactic
import Derived.Deep.LoopGhost
import Derived.Lib.Strings
namespace Go.Proofs.Ytacjckocjngfoaa
open Go.RowKit Fnd
set_option linter.unusedVariables false

theorem wfi2 (x : Int) (h : -9223372036854775808 ≤ x ∧ x ≤ 9223372036854775807) : (Lit.int .i64 x).wf = true := by
  simp [Lit.wf, IntKind.min, IntKind.max, IntKind.signed, IntKind.bits]; omega
/-- The bytes of a text. -/
def bf (s : ByteArray) (j : Nat) : UInt8 := s.data.toList.getD j 0
theorem bf_at (s : ByteArray) (j : Nat) (h : j < s.size) : bf s j = s[j] := by
  unfold bf
  have hl : j < s.data.toList.length := by simpa using h
  rw [List.getD_eq_getElem?_getD, List.getElem?_eq_getElem hl]; rfl
theorem byte_eq {a b : UInt8} (h : a = b) : ((a.toNat : Int) == (b.toNat : Int)) = true := by subst h; simp
theorem byte_ne {a b : UInt8} (h : ¬ a = b) : ((a.toNat : Int) == (b.toNat : Int)) = false := by
  rw [beq_eq_false_iff_ne]; intro e; exact h (UInt8.toNat_inj.1 (by omega))
theorem byte_eq2 {a b : UInt8} (h : a = b) : ((a.toNat : Int) != (b.toNat : Int)) = false := by subst h; simp
theorem byte_ne2 {a b : UInt8} (h : ¬ a = b) : ((a.toNat : Int) != (b.toNat : Int)) = true := by
  have := byte_ne h; simp only [bne, this]; rfl
def natI (xs : List Nat) : List Int := xs.map fun (x : Nat) => (x : Int)
theorem row_of_rowIs {w : World} {g n : Nat} {e : TypeId} {B : Nat → Nat} (h : w.rowIs g e n (fun j => .int .i64 (B j : Int))) (hn : n ≤ 1000000) (hB : ∀ j, j < n → B j ≤ 1000000) : Row .i64 w (.slice (some ⟨g, 0, none⟩) n n) (natI ((List.range n).map B)) := by
  refine ⟨some ⟨g, 0, none⟩, n, by simp [natI], by simp [natI], by unfold maxLen; omega, fun x hx => ?_, ⟨by simp [natI], fun hp => ⟨_, rfl, h.lt, fun j u hu => ?_⟩⟩⟩
  · simp only [natI, List.mem_map, List.mem_range] at hx
    obtain ⟨y, ⟨j, hj, rfl⟩, rfl⟩ := hx
    have := hB j hj
    exact wfi2 _ (by omega)
  · have hj : j < n := by have := (List.getElem?_eq_some_iff.1 hu).1; simpa [natI] using this
    rw [add_head, h.cell hj, ← hu]
    simp [natI, hj]
theorem mx_first (f : Nat → UInt8) : ∀ j, j < 1 → Mx f (j + 1) 0 := fun j hj => by
  obtain rfl : j = 0 := by omega
  exact mx_one f
def BorderPost (s : ByteArray) (w : World) (e : Ending) (w' : World) : Prop := ∃ (v : Value) (bs : List Nat), e = .returned v ∧ Row .i64 w' v (natI bs) ∧ bs.length = s.size ∧ (∀ j, j < s.size → Mx (bf s) (j + 1) (bs.getD j 0)) ∧ Below w.heap.size w w'

set_option maxRecDepth 100000 in
set_option maxHeartbeats 2000000 in
theorem border_any (s : ByteArray) (w : World) (h0 : 0 < s.size) (hs : s.size ≤ 100000) :
    Calls Try.prog 31 #[.string s] w (BorderPost s w) := by
  have hmk : ∀ W : World, (Instr.makeSlice 22 (.int .i64 (s.size : Int)) (.int .i64 (s.size : Int))).run Try.prog W = .ok (.slice (some ⟨W.heap.size, 0, none⟩) s.size s.size) (W.alloc (.cells (madeCells #[.int .i64 0] s.size) 3)) :=
    fun W => run_make_row' (P := Try.prog) 22 3 (.int .i64 0) 8 Try.underlying22 int_info rfl .i64 .i64 s.size (by omega) (by omega) W
  go_enter Try.func31, Try.ntmps31
  go_wp2_with fail
  clear hmk
  go_loopw [4, 5] (fun n i wr => ∃ (i' n' : Nat) (B : Nat → Nat), 1 ≤ i' ∧ i' ≤ s.size ∧ i = .int .i64 i' ∧ n = .int .i64 n' ∧ Hid (Mx (bf s) i' n') ∧ wr.rowIs w.heap.size 3 s.size (fun j => .int .i64 (B j : Int)) ∧ Hid (∀ j, j < i' → Mx (bf s) (j + 1) (B j)) ∧ Below w.heap.size w wr) (fun _ i _ => s.size - (intOf i).toNat)
  case atStart => exact ⟨1, 0, fun _ => 0, Nat.le_refl _, h0, rfl, rfl, Lib.hid (mx_one _), World.rowIs_made w _ _ _, Lib.hid (mx_first _), (Below.refl _ _).alloc (Nat.le_refl _) _⟩
  case round =>
    obtain ⟨i, n0, B, hi1, hi2, rfl, rfl, HM, RB, HB, KW⟩ := hrel
    by_cases hlt : i < s.size
    · have HI := Lib.hid (in1_start (bf s) i n0 HM.out)
      have hi0 : (0 : Int) ≤ (i : Int) := by omega
      have hilt : (i : Int) < (s.size : Int) := by omega
      go_wp2_with fail
      obtain ⟨wo, rfl⟩ : ∃ wo : World, wo = wr := ⟨_, rfl⟩
      go_loopw [4] (fun n wr => ∃ (n' q : Nat), n = .int .i64 n' ∧ Hid (In1 (bf s) i n') ∧ wr = wo.drewN q) (fun n _ => (intOf n).toNat)
      case atStart => exact ⟨n0, 0, rfl, HI, rfl⟩
      case round =>
        clear HI HM
        obtain ⟨n, q, rfl, HI, rfl⟩ := hrel
        have hni : n < i := HI.out.1.1
        have hn0 : (0 : Int) ≤ (n : Int) := by omega
        have hnlt : (n : Int) < (s.size : Int) := by omega
        have b1 := bf_at s i hlt
        have b2 := bf_at s n (by omega)
        by_cases he : s[i] = s[n]
        · have e1 := byte_eq he
          have e2 := byte_eq2 he
          have HMX := Lib.hid (in1_yes (bf s) i n HI.out (by rw [b1, b2]; exact he))
          have HB2 := Lib.hid (show ∀ j, j < i + 1 → Mx (bf s) (j + 1) (if j = i then n + 1 else B j) from fun j hj => by
            by_cases e : j = i
            · subst e; rw [if_pos rfl]; exact HMX.out
            · rw [if_neg e]; exact HB.out j (by omega))
          clear b1 b2 he
          by_cases hz : n = 0
          · have hd : decide ((0 : Int) < (n : Int)) = false := by simp; omega
            have hd2 : decide (0 < n) = false := by simp; omega
            clear hz
            go_wp2_with fail
            go_quiet (fail)
            go_wp2_with fail
            go_quiet (fail)
            have hcs := RB.cell (i := i) hlt
            have hfs := RB.frozen i
            go_wp2_with fail
            go_roundw
            case rel => exact ⟨i + 1, n + 1, fun j => if j = i then n + 1 else B j, by omega, by omega, by go_num, by go_num, HMX, (RB.set i _).congr (fun j hj => by by_cases e : j = i <;> simp [e]), HB2, below_drewN (KW.setCell (p := ⟨w.heap.size, i, none⟩) (Nat.le_refl _) _) _⟩
            case measure => simp [intOf]; omega
          · have hd : decide ((0 : Int) < (n : Int)) = true := by simp; omega
            have hd2 : decide (0 < n) = true := by simp; omega
            clear hz
            go_wp2_with fail
            go_quiet (fail)
            go_wp2_with fail
            go_quiet (fail)
            have hcs := RB.cell (i := i) hlt
            have hfs := RB.frozen i
            go_wp2_with fail
            go_roundw
            case rel => exact ⟨i + 1, n + 1, fun j => if j = i then n + 1 else B j, by omega, by omega, by go_num, by go_num, HMX, (RB.set i _).congr (fun j hj => by by_cases e : j = i <;> simp [e]), HB2, below_drewN (KW.setCell (p := ⟨w.heap.size, i, none⟩) (Nat.le_refl _) _) _⟩
            case measure => simp [intOf]; omega
        · have e1 := byte_ne he
          have e2 := byte_ne2 he
          have hne : bf s i ≠ bf s n := by rw [b1, b2]; exact he
          clear b1 b2 he
          by_cases hz : n = 0
          · have HMX := Lib.hid (show Mx (bf s) (i + 1) n from hz ▸ in1_no (bf s) i n HI.out hz hne)
            have hd : decide ((0 : Int) < (n : Int)) = false := by simp; omega
            have hd2 : decide (0 < n) = false := by simp; omega
            have HZ := Lib.hid hz
            clear hz
            have HB2 := Lib.hid (show ∀ j, j < i + 1 → Mx (bf s) (j + 1) (if j = i then n else B j) from fun j hj => by
              by_cases e : j = i
              · subst e; rw [if_pos rfl]; exact HMX.out
              · rw [if_neg e]; exact HB.out j (by omega))
            clear hne
            go_wp2_with fail
            go_quiet (fail)
            go_wp2_with fail
            go_quiet (fail)
            have hcs := RB.cell (i := i) hlt
            have hfs := RB.frozen i
            go_wp2_with fail
            go_roundw
            case rel => exact ⟨i + 1, n, fun j => if j = i then n else B j, by omega, by omega, by go_num, by go_num, HMX, (RB.set i _).congr (fun j hj => by by_cases e : j = i <;> simp [e]), HB2, below_drewN (KW.setCell (p := ⟨w.heap.size, i, none⟩) (Nat.le_refl _) _) _⟩
            case measure => simp [intOf]; omega
          · have hm := HB.out (n - 1) (by omega)
            rw [show n - 1 + 1 = n by omega] at hm
            have HI2 := Lib.hid (in1_step (bf s) i n (B (n - 1)) HI.out hne hm)
            have hbt : B (n - 1) < n := hm.1.1
            have hct := RB.cell (i := n - 1) (by omega)
            have hd : decide ((0 : Int) < (n : Int)) = true := by simp; omega
            have hd2 : decide (0 < n) = true := by simp; omega
            have hi3 : (0 : Int) ≤ (n : Int) - 1 := by omega
            have hi4 : (n : Int) - 1 < (s.size : Int) := by omega
            have hi5 : ((n : Int) - 1).toNat = n - 1 := by omega
            clear hm hne hz
            go_wp2_with fail
            go_quiet (fail)
            go_wp2_with fail
            go_roundw
            case rel => exact ⟨B (n - 1), q + nq, rfl, HI2, rfl⟩
            case measure => simp [intOf]; omega
    · obtain rfl : i = s.size := by omega
      have hBb : ∀ j, j < s.size → B j ≤ 1000000 := fun j hj => by have := (HB.out j hj).1.1; omega
      have hrow := row_of_rowIs RB (by omega) hBb
      have hfin := Lib.hid (show ∀ j, j < s.size → Mx (bf s) (j + 1) (((List.range s.size).map B).getD j 0) from fun j hj => by
        have : ((List.range s.size).map B).getD j 0 = B j := by simp [List.getD, hj]
        rw [this]; exact HB.out j hj)
      clear hBb
      go_wp2_with fail
      go_ret
      exact ⟨_, (List.range s.size).map B, rfl, hrow, by simp, hfin.out, KW⟩

/-- The places at which a text stands in another one. -/
def occ (s t : ByteArray) : List Nat := oc (bf s) (bf t) t.size s.size
def InOwn (s t : ByteArray) (w : World) (e : Ending) (w' : World) : Prop := ∃ (v : Value) (B : Nat), e = .returned v ∧ w.heap.size ≤ B ∧ w'.ownsRow B 3 1 v (occ s t).length ((natI (occ s t)).map (.int .i64)) ∧ Below w.heap.size w w'
def InPost (s t : ByteArray) (w : World) (e : Ending) (w' : World) : Prop := ∃ (v : Value), e = .returned v ∧ Row .i64 w' v (natI (occ s t)) ∧ Below w.heap.size w w'
set_option maxRecDepth 100000 in
set_option maxHeartbeats 4000000 in
theorem in_own (s t : ByteArray) (w : World) (ht0 : 0 < t.size) (ht : t.size ≤ 1000) (hs : s.size ≤ 100000) :
    Calls Try.prog 20 #[.string s, .string t] w (InOwn s t w) := by
  go_enter Try.func20, Try.ntmps20
  go_wp2_with fail
  refine (border_any t _ ht0 (by omega)).mono ?_
  rintro e w1 ⟨v1, bs, rfl, hrow, hbl, hbs, k1⟩
  obtain ⟨A, c, rfl, hlA, hcA, _, hrd⟩ := id hrow
  have hnl : (natI bs).length = t.size := by simp [natI, hbl]
  obtain ⟨b, o, rfl, hb, hcell⟩ := hrd.plain (by omega) (by omega)
  have HC := Lib.hid (show ∀ j, j < t.size → w1.cell? ⟨b, o + j, none⟩ = some (.int .i64 (bs.getD j 0 : Int)) from fun j hj => hcell j _ (by
    rw [List.getElem?_map, natI, List.getElem?_map, List.getElem?_eq_getElem (by omega)]
    simp [List.getD, show j < bs.length by omega]))
  have HBS := Lib.hid hbs
  rw [hnl] at hlA ⊢
  clear hrd hcell hbs hrow hnl
  unfold maxLen at hcA
  go_wp2_with fail
  obtain ⟨wB, hwB⟩ : ∃ n, n = w1.heap.size := ⟨_, rfl⟩
  have HWB := Lib.hid hwB
  clear hwB
  go_loopw [6, 7, 8, 13] (fun o n _ i wr => ∃ (i' n' : Nat), i' ≤ s.size ∧ i = .int .i64 i' ∧ n = .int .i64 n' ∧ Hid (Fnd.St (bf s) (bf t) t.size i' n') ∧ wr.ownsRow wB 3 1 o (oc (bf s) (bf t) t.size i').length ((natI (oc (bf s) (bf t) t.size i')).map (.int .i64)) ∧ Below wB w1 wr) (fun _ _ _ i _ => s.size - (intOf i).toNat)
  case atStart => exact ⟨0, 0, Nat.zero_le _, rfl, rfl, Lib.hid (st0 _ _ _), World.ownsRow_nil _ _ _ _, Below.refl _ _⟩
  case round =>
    obtain ⟨i, n0, hi, rfl, rfl, HST0, hown, KW⟩ := hrel
    have holen := oc_len (bf s) (bf t) t.size i
    by_cases hlt : i < s.size
    · have HI := Lib.hid (in2_start _ _ _ _ _ HST0.out)
      have hi0 : (0 : Int) ≤ (i : Int) := by omega
      have hi1 : (i : Int) < (s.size : Int) := by omega
      go_wp2_with fail
      obtain ⟨wo, rfl⟩ : ∃ wo : World, wo = wr := ⟨_, rfl⟩
      go_loopw [7] (fun n wr => ∃ (n' q : Nat), n = .int .i64 n' ∧ Hid (In2 (bf s) (bf t) t.size i n') ∧ wr = wo.drewN q) (fun n _ => (intOf n).toNat)
      case atStart => exact ⟨n0, 0, rfl, HI, rfl⟩
      case round =>
        clear HI HST0
        obtain ⟨n, q, rfl, HI, rfl⟩ := hrel
        have hnm : n ≤ t.size := HI.out.1
        have hn0 : (0 : Int) ≤ (n : Int) := by omega
        have b1 := bf_at s i hlt
        by_cases hnf : n = t.size
        · have hm := HBS.out (t.size - 1) (by omega)
          rw [show t.size - 1 + 1 = t.size by omega] at hm
          have hm' : Mx (bf t) n (bs.getD (t.size - 1) 0) := by rw [hnf]; exact hm
          have HI2 := Lib.hid (in2_step (bf s) (bf t) t.size i n _ HI.out (.inl hnf) hm')
          have hbt : bs.getD (t.size - 1) 0 < t.size := hm.1.1
          have hct := (KW.cell (p := ⟨b, o + (t.size - 1), none⟩) (by rw [HWB.out]; exact hb)).trans (HC.out (t.size - 1) (by omega))
          subst hnf
          have hfb0 : ((t.size : Int) == (t.size : Int)) = true := by simp
          have hd : decide ((0 : Int) < (t.size : Int)) = true := by simp; omega
          have hd2 : decide (0 < t.size) = true := by simp; omega
          have hi3 : (0 : Int) ≤ (t.size : Int) - 1 := by omega
          have hi4 : (t.size : Int) - 1 < (t.size : Int) := by omega
          have hi5 : ((t.size : Int) - 1).toNat = t.size - 1 := by omega
          generalize bs.getD (t.size - 1) 0 = n2 at *
          clear hm hm' b1
          go_wp2_with fail
          go_quiet (fail)
          go_wp2_with fail
          go_roundw
          case rel => exact ⟨n2, q + nq, rfl, HI2, rfl⟩
          case measure => simp [intOf]; omega
        · have hnlt : (n : Int) < (t.size : Int) := by omega
          have hnlt2 : n < t.size := by omega
          have b2 := bf_at t n (by omega)
          have hfb0 : ((n : Int) == (t.size : Int)) = false := by rw [beq_eq_false_iff_ne]; omega
          by_cases he : s[i] = t[n]
          · have e1 := byte_eq he
            have e2 := byte_eq2 he
            have HST := Lib.hid (in2_yes _ _ _ _ _ HI.out hnlt2 (by rw [b1, b2]; exact he))
            clear b1 b2 he hnf
            by_cases hz : n = 0
            · have hd : decide ((0 : Int) < (n : Int)) = false := by simp; omega
              have hd2 : decide (0 < n) = false := by simp; omega
              clear hz
              go_wp2_with fail
              go_quiet (fail)
              go_wp2_with fail
              go_quiet (fail)
              by_cases hfull : (n + 1) = t.size
              · have HO := Lib.hid (oc_yes (bf s) (bf t) t.size i (by have := HST.out; rw [hfull] at this; exact this))
                have hfb : (((n + 1) : Int) == (t.size : Int)) = true := by rw [beq_iff_eq]; omega
                have hpl : (n + 1) ≤ i + 1 := HST.out.2.1.1
                have hsum : (i : Int) + 1 - ((n + 1) : Int) = ((i + 1 - t.size : Nat) : Int) := by omega
                have hsum2 : (i : Int) + 1 - (((n + 1) : Nat) : Int) = ((i + 1 - t.size : Nat) : Int) := by omega
                have HOL := Lib.hid (show (oc (bf s) (bf t) t.size (i + 1)).length = (oc (bf s) (bf t) t.size i).length + 1 by rw [HO.out]; simp)
                have hzb := KW.size
                have hownX : ∀ q, (wo.drewN q).ownsRow wB 3 1 u6 (oc (bf s) (bf t) t.size i).length ((natI (oc (bf s) (bf t) t.size i)).map (.int .i64)) := fun q => hown
                have HOW := Lib.hid hownX
                clear hownX hown
                rw [← HWB.out] at hzb
                have KX := Lib.hid (fun q => below_drewN KW q)
                go_wp2_with (at_builtin; refine wpList_app1 rfl (.tmp 51) (.tmp 56) _ rfl wB 3 _ 8 Try.underlying22 int_info rfl _ _ _ rfl (HOW.out _) _ rfl rfl rfl (by omega) (by omega) hzb ?_)
                intro v' w' hown' hbel' _
                replace hbel' := hbel' _ (Nat.le_refl _) _ (KX.out _)
                go_wp2_with fail
                go_roundw
                case rel => exact ⟨i + 1, (n + 1), by omega, by go_num, by go_num, HST, by rw [HOL.out, HO.out]; simpa [natI] using hown', hbel'⟩
                case measure => simp [intOf]; omega
              · have HO := Lib.hid (oc_no (bf s) (bf t) t.size i _ HST.out hfull)
                have hfb : (((n + 1) : Int) == (t.size : Int)) = false := by rw [beq_eq_false_iff_ne]; omega
                clear hfull
                go_wp2_with fail
                go_roundw
                case rel => exact ⟨i + 1, (n + 1), by omega, by go_num, by go_num, HST, by rw [HO.out]; exact hown, below_drewN KW _⟩
                case measure => simp [intOf]; omega
            · have hd : decide ((0 : Int) < (n : Int)) = true := by simp; omega
              have hd2 : decide (0 < n) = true := by simp; omega
              clear hz
              go_wp2_with fail
              go_quiet (fail)
              go_wp2_with fail
              go_quiet (fail)
              by_cases hfull : (n + 1) = t.size
              · have HO := Lib.hid (oc_yes (bf s) (bf t) t.size i (by have := HST.out; rw [hfull] at this; exact this))
                have hfb : (((n + 1) : Int) == (t.size : Int)) = true := by rw [beq_iff_eq]; omega
                have hpl : (n + 1) ≤ i + 1 := HST.out.2.1.1
                have hsum : (i : Int) + 1 - ((n + 1) : Int) = ((i + 1 - t.size : Nat) : Int) := by omega
                have hsum2 : (i : Int) + 1 - (((n + 1) : Nat) : Int) = ((i + 1 - t.size : Nat) : Int) := by omega
                have HOL := Lib.hid (show (oc (bf s) (bf t) t.size (i + 1)).length = (oc (bf s) (bf t) t.size i).length + 1 by rw [HO.out]; simp)
                have hzb := KW.size
                have hownX : ∀ q, (wo.drewN q).ownsRow wB 3 1 u6 (oc (bf s) (bf t) t.size i).length ((natI (oc (bf s) (bf t) t.size i)).map (.int .i64)) := fun q => hown
                have HOW := Lib.hid hownX
                clear hownX hown
                rw [← HWB.out] at hzb
                have KX := Lib.hid (fun q => below_drewN KW q)
                go_wp2_with (at_builtin; refine wpList_app1 rfl (.tmp 51) (.tmp 56) _ rfl wB 3 _ 8 Try.underlying22 int_info rfl _ _ _ rfl (HOW.out _) _ rfl rfl rfl (by omega) (by omega) hzb ?_)
                intro v' w' hown' hbel' _
                replace hbel' := hbel' _ (Nat.le_refl _) _ (KX.out _)
                go_wp2_with fail
                go_roundw
                case rel => exact ⟨i + 1, (n + 1), by omega, by go_num, by go_num, HST, by rw [HOL.out, HO.out]; simpa [natI] using hown', hbel'⟩
                case measure => simp [intOf]; omega
              · have HO := Lib.hid (oc_no (bf s) (bf t) t.size i _ HST.out hfull)
                have hfb : (((n + 1) : Int) == (t.size : Int)) = false := by rw [beq_eq_false_iff_ne]; omega
                clear hfull
                go_wp2_with fail
                go_roundw
                case rel => exact ⟨i + 1, (n + 1), by omega, by go_num, by go_num, HST, by rw [HO.out]; exact hown, below_drewN KW _⟩
                case measure => simp [intOf]; omega
          · have e1 := byte_ne he
            have e2 := byte_ne2 he
            have hne : bf s i ≠ bf t n := by rw [b1, b2]; exact he
            clear b1 b2 he
            by_cases hz : n = 0
            · have HST := Lib.hid (show Fnd.St (bf s) (bf t) t.size (i + 1) n from hz ▸ in2_no (bf s) (bf t) t.size i n HI.out hz hne)
              have hd : decide ((0 : Int) < (n : Int)) = false := by simp; omega
              have hd2 : decide (0 < n) = false := by simp; omega
              clear hz hne
              go_wp2_with fail
              go_quiet (fail)
              go_wp2_with fail
              go_quiet (fail)
              have HO := Lib.hid (oc_no (bf s) (bf t) t.size i _ HST.out hnf)
              clear hnf
              go_wp2_with fail
              go_roundw
              case rel => exact ⟨i + 1, n, by omega, by go_num, by go_num, HST, by rw [HO.out]; exact hown, below_drewN KW _⟩
              case measure => simp [intOf]; omega
            · have hm := HBS.out (n - 1) (by omega)
              rw [show n - 1 + 1 = n by omega] at hm
              have HI2 := Lib.hid (in2_step (bf s) (bf t) t.size i n _ HI.out (.inr hne) hm)
              have hbt : bs.getD (n - 1) 0 < n := hm.1.1
              have hct := (KW.cell (p := ⟨b, o + (n - 1), none⟩) (by rw [HWB.out]; exact hb)).trans (HC.out (n - 1) (by omega))
              have hd : decide ((0 : Int) < (n : Int)) = true := by simp; omega
              have hd2 : decide (0 < n) = true := by simp; omega
              have hi3 : (0 : Int) ≤ (n : Int) - 1 := by omega
              have hi4 : (n : Int) - 1 < (t.size : Int) := by omega
              have hi5 : ((n : Int) - 1).toNat = n - 1 := by omega
              generalize bs.getD (n - 1) 0 = n2 at *
              clear hm hne hz hnf
              go_wp2_with fail
              go_quiet (fail)
              go_wp2_with fail
              go_roundw
              case rel => exact ⟨n2, q + nq, rfl, HI2, rfl⟩
              case measure => simp [intOf]; omega
    · obtain rfl : i = s.size := by omega
      have kf := bstep k1 (show Below w1.heap.size w1 wr by rw [← HWB.out]; exact KW)
      have hwb : w.heap.size ≤ wB := by rw [HWB.out]; exact k1.size
      have hown2 : wr.ownsRow wB 3 1 u6 (occ s t).length ((natI (occ s t)).map (.int .i64)) := hown
      clear hown KW
      go_wp2_with fail
      go_ret
      exact ⟨_, wB, rfl, hwb, hown2, kf⟩
theorem in_row (s t : ByteArray) (w : World) (v : Value) (B : Nat) (hs : s.size ≤ 100000) (hown : w.ownsRow B 3 1 v (occ s t).length ((natI (occ s t)).map (.int .i64))) : Row .i64 w v (natI (occ s t)) :=
  row_of_own (by simpa [natI] using hown) (fun x hx => by
    obtain ⟨y, hy, rfl⟩ := List.mem_map.1 hx
    have := oc_bd _ _ _ _ y hy
    exact wfi2 _ (by omega))
theorem in_any (s t : ByteArray) (w : World) (ht0 : 0 < t.size) (ht : t.size ≤ 1000) (hs : s.size ≤ 100000) :
    Calls Try.prog 20 #[.string s, .string t] w (InPost s t w) :=
  (in_own s t w ht0 ht hs).mono fun e w' ⟨v, B, he, _, ho, hb⟩ => ⟨v, he, in_row s t w' v B hs ho, hb⟩

set_option maxHeartbeats 1000000 in
theorem fault_any (s t : ByteArray) (w : World) (hs : s.size ≤ 600) (ht : t.size ≤ 20) (h0 : 0 < t.size) :
    Calls Try.prog 12 #[.string s, .string t] w fun e w' => e = .returned (.int .i64 0) ∧ w = w' := by
  have h1 : decide ((600 : Int) < (s.size : Int)) = false := by simp; omega
  have h2 : decide ((20 : Int) < (t.size : Int)) = false := by simp; omega
  have h4 : t.toList.isEmpty = false := by
    rw [Lib.toList_data]
    have hl : t.data.toList.length = t.size := by simp
    cases h : t.data.toList with
    | nil => rw [h] at hl; simp at hl; omega
    | cons _ _ => rfl
  go_enter Try.func12, Try.ntmps12
  go_wp2_with fail
  go_ret
  exact ⟨rfl, rfl⟩
def AllPost (s t : ByteArray) (w : World) (e : Ending) (w' : World) : Prop := ∃ (v : Value), e = .returned (.tuple #[v, .int .i64 0]) ∧ Row .i64 w' v (natI (occ s t)) ∧ Below w.heap.size w w'
set_option maxHeartbeats 1000000 in
theorem all_any (s t : ByteArray) (w : World) (hs : s.size ≤ 600) (ht : t.size ≤ 20) (h0 : 0 < t.size) :
    Calls Try.prog 8 #[.string s, .string t] w (AllPost s t w) := by
  go_enter Try.func8, Try.ntmps8
  go_wp2_with fail
  refine (fault_any s t _ hs ht h0).mono ?_
  rintro e w' ⟨rfl, rfl⟩
  go_wp2_with fail
  refine (in_any s t _ h0 (by omega) (by omega)).mono ?_
  rintro e w1 ⟨v, rfl, hr, hb⟩
  go_wp2_with fail
  go_ret2
  exact ⟨v, rfl, hr, hb⟩
end Go.Proofs.Ytacjckocjngfoaa
