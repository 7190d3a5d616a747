/-
  The walk of diff.costs: the table of least costs between all ends of two lists of lines. Condition: at most 1000 lines each. Nothing that was there is changed.
-/
import Derived.Test.YtpgjjnbepkofdaaPick
import Derived.Test.YtpgjjnbepkofdaaOpen
import Derived.Test.YtpgjjnbepkofdaaDc
import Derived.BigQuiet
import Derived.Deep.QuietTactic
import Derived.RegionTactic
namespace Go.Proofs.Ytpgjjnbepkofdaa
open Go.RowKit
set_option linter.unusedVariables false

def dD (a b : List ByteArray) (r k : Nat) : Nat := Dc.dc (a.drop r) (b.drop k)
theorem dD_last (a b : List ByteArray) (k : Nat) (h : k ≤ b.length) : dD a b a.length k = b.length - k := by simp [dD, Dc.dc_nil]
theorem dD_right (a b : List ByteArray) (r : Nat) (h : r ≤ a.length) : dD a b r b.length = a.length - r := by simp [dD, Dc.dc_nil_right]
theorem dD_eq (a b : List ByteArray) (r k : Nat) (hr : r < a.length) (hk : k < b.length) (h : a[r] = b[k]) : dD a b r k = dD a b (r + 1) (k + 1) := by
  unfold dD; rw [List.drop_eq_getElem_cons hr, List.drop_eq_getElem_cons hk, h, Dc.dc_keep]
theorem dD_ne (a b : List ByteArray) (r k : Nat) (hr : r < a.length) (hk : k < b.length) (h : ¬ a[r] = b[k]) : dD a b r k = 1 + min (dD a b (r + 1) k) (dD a b r (k + 1)) := by
  unfold dD; rw [List.drop_eq_getElem_cons hr, List.drop_eq_getElem_cons hk, Dc.dc_cons, if_neg h]
theorem dD_le (a b : List ByteArray) (r k : Nat) : dD a b r k ≤ a.length + b.length := by
  have := Dc.dc_le (a.drop r) (b.drop k)
  simp only [List.length_drop] at this; unfold dD; omega

theorem ints_info : (Try.prog.info? 22).map (fun i => (i.zero, i.size, i.bytes)) = some (some (.slice none 0 0), 1, 24) := by kernel_rfl

/-- Block G is a column of n + 1 slices, from q on each one a row of m + 1 integers D r k. -/
def Tab (w : World) (B G n m : Nat) (H : Nat → Nat) (q : Nat) (D : Nat → Nat → Nat) : Prop :=
  w.rowIs G 22 (n + 1) (fun r => if q ≤ r then .slice (some ⟨H r, 0, none⟩) (m + 1) (m + 1) else .slice none 0 0) ∧
  ∀ r, q ≤ r → r ≤ n → H r ≠ G ∧ B ≤ H r ∧ w.rowIs (H r) 3 (m + 1) (fun k => .int .i64 (D r k))
theorem Tab.below {w w' : World} {B G n m q : Nat} {H : Nat → Nat} {D : Nat → Nat → Nat} (h : Tab w B G n m H q D) (hb : Below w.heap.size w w') : Tab w' B G n m H q D :=
  ⟨rowIs_later h.1 hb, fun r hr hn => ⟨(h.2 r hr hn).1, (h.2 r hr hn).2.1, rowIs_later (h.2 r hr hn).2.2 hb⟩⟩
/-- As Tab from r + 1 on; row r lies in block g and is filled from p on. -/
def Inn (w : World) (B G n m : Nat) (H : Nat → Nat) (r g p : Nat) (D : Nat → Nat → Nat) : Prop :=
  w.rowIs G 22 (n + 1) (fun x => if r ≤ x then .slice (some ⟨if x = r then g else H x, 0, none⟩) (m + 1) (m + 1) else .slice none 0 0) ∧
  (∀ x, r + 1 ≤ x → x ≤ n → H x ≠ G ∧ B ≤ H x ∧ H x ≠ g ∧ w.rowIs (H x) 3 (m + 1) (fun k => .int .i64 (D x k))) ∧
  w.rowIs g 3 (m + 1) (fun k => .int .i64 (if p ≤ k then (D r k : Int) else 0)) ∧ G < g ∧ B ≤ g
def CostsPost (a b : List ByteArray) (w : World) (e : Ending) (w' : World) : Prop :=
  ∃ G H, e = .returned (.slice (some ⟨G, 0, none⟩) (a.length + 1) (a.length + 1)) ∧ Tab w' w.heap.size G a.length b.length H 0 (dD a b) ∧ Below w.heap.size w w'

set_option maxRecDepth 100000 in
set_option maxHeartbeats 4000000 in
theorem costs_any (va vb : Value) (a b : List ByteArray) (w : World) (ha : SRow w va a) (hb : SRow w vb b) (hn : a.length ≤ 1000) (hm : b.length ≤ 1000) :
    Calls Try.prog 120 #[va, vb] w (CostsPost a b w) := by
  obtain ⟨Aa, ca, rfl, hla, hca, hra⟩ := ha
  obtain ⟨Ab, cb, rfl, hlb, hcb, hrb⟩ := hb
  unfold maxLen at hca hcb
  have hmk1 : ∀ W : World, (Instr.makeSlice 63 (.int .i64 ((a.length : Int) + 1)) (.int .i64 ((a.length : Int) + 1))).run Try.prog W = .ok (.slice (some ⟨W.heap.size, 0, none⟩) (a.length + 1) (a.length + 1)) (W.alloc (.cells (madeCells #[.slice none 0 0] (a.length + 1)) 22)) :=
    fun W => run_make_row' (P := Try.prog) 63 22 (.slice none 0 0) 24 Try.underlying63 ints_info rfl .i64 .i64 (a.length + 1) (by omega) (by omega) W
  have hmk2 : ∀ W : World, (Instr.makeSlice 22 (.int .i64 ((b.length : Int) + 1)) (.int .i64 ((b.length : Int) + 1))).run Try.prog W = .ok (.slice (some ⟨W.heap.size, 0, none⟩) (b.length + 1) (b.length + 1)) (W.alloc (.cells (madeCells #[.int .i64 0] (b.length + 1)) 3)) :=
    fun W => run_make_row' (P := Try.prog) 22 3 (.int .i64 0) 8 Try.underlying22 int_info rfl .i64 .i64 (b.length + 1) (by omega) (by omega) W
  go_enter Try.func120, Try.ntmps120
  go_wp2
  clear hmk1
  go_loopw [6] (fun i wr => ∃ (q : Nat) (H : Nat → Nat), q ≤ a.length + 1 ∧ i = .int .i64 ((q : Int) - 1) ∧ Tab wr w.heap.size w.heap.size a.length b.length H q (dD a b) ∧ Below w.heap.size w wr) (fun i _ => (intOf i + 1).toNat)
  case atStart =>
    refine ⟨a.length + 1, fun _ => 0, Nat.le_refl _, by simp, ⟨(World.rowIs_made w _ _ _).congr (fun r hr => by rw [if_neg (by omega)]), fun r h1 h2 => by omega⟩, (Below.refl _ _).alloc (Nat.le_refl _) _⟩
  case round =>
    obtain ⟨q, H, hq, rfl, htab, hbel⟩ := hrel
    cases q with
    | zero =>
      have e0 : ((0 : Nat) : Int) - 1 = -1 := rfl
      rw [e0]
      go_wp2
      go_ret
      exact ⟨_, H, rfl, htab, hbel⟩
    | succ r =>
      have er : ((r + 1 : Nat) : Int) - 1 = (r : Int) := by omega
      rw [er]
      have hcg := htab.1.cell (i := r) (by omega)
      have hfg := htab.1.frozen r
      have hltg := htab.1.lt
      rw [if_neg (by omega)] at hcg
      have hsz : (wr.setCell ⟨w.heap.size, r, none⟩ (.slice (some ⟨wr.heap.size, 0, none⟩) (b.length + 1) (b.length + 1))).heap.size = wr.heap.size := World.size_setCell _ _ _
      have hin : Inn ((wr.setCell ⟨w.heap.size, r, none⟩ (.slice (some ⟨wr.heap.size, 0, none⟩) (b.length + 1) (b.length + 1))).alloc (.cells (madeCells #[.int .i64 0] (b.length + 1)) 3)) w.heap.size w.heap.size a.length b.length H r wr.heap.size (b.length + 1) (dD a b) := by
        refine ⟨((htab.1.set r _).alloc _).congr (fun x hx => ?_), fun x hx hxn => ?_, ?_, by omega, by omega⟩
        · by_cases e : x = r
          · subst e; rw [if_pos rfl, if_pos (Nat.le_refl _), if_pos rfl]
          · rw [if_neg e, if_neg e]
            by_cases e2 : r + 1 ≤ x
            · rw [if_pos e2, if_pos (by omega)]
            · rw [if_neg e2, if_neg (by omega)]
        · obtain ⟨h1, h2, h3⟩ := htab.2 x hx hxn
          exact ⟨h1, h2, by have := h3.lt; omega, (h3.setOther (by exact h1) _).alloc _⟩
        · have := World.rowIs_made (wr.setCell ⟨w.heap.size, r, none⟩ (.slice (some ⟨wr.heap.size, 0, none⟩) (b.length + 1) (b.length + 1))) (.int .i64 0) (b.length + 1) 3
          rw [hsz] at this
          exact this.congr (fun k hk => by rw [if_neg (by omega)])
      have hbel0 : Below w.heap.size w ((wr.setCell ⟨w.heap.size, r, none⟩ (.slice (some ⟨wr.heap.size, 0, none⟩) (b.length + 1) (b.length + 1))).alloc (.cells (madeCells #[.int .i64 0] (b.length + 1)) 3)) := (hbel.setCell (Nat.le_refl _) _).alloc (by rw [hsz]; exact hbel.size) _
      have HIN := Lib.hid hin
      clear hin htab hsz
      have HB0 := Lib.hid hbel0
      clear hbel0
      go_wp2_with fail
      have hbel0 := HB0.out
      clear HB0
      generalize hg : wr.heap.size = g at *
      have HG := Lib.hid hg
      clear hg
      obtain ⟨wo, rfl⟩ : ∃ wo : World, wo = wr := ⟨_, rfl⟩
      go_loopw [7] (fun i wq => ∃ p : Nat, p ≤ b.length + 1 ∧ i = .int .i64 ((p : Int) - 1) ∧ Inn wq w.heap.size w.heap.size a.length b.length H r g p (dD a b) ∧ Below w.heap.size w wq) (fun i _ => (intOf i + 1).toNat)
      case atStart => exact ⟨b.length + 1, Nat.le_refl _, by simp, HIN.out, hbel0⟩
      case round =>
        clear HIN hbel0 hbel
        obtain ⟨p, hp, rfl, hin, hbel⟩ := hrel
        cases p with
        | zero =>
          have e0 : ((0 : Nat) : Int) - 1 = -1 := rfl
          rw [e0]
          go_wp2
          go_roundw
          case rel =>
            refine ⟨r, fun x => if x = r then g else H x, by omega, rfl, ⟨hin.1, fun x hx hxn => ?_⟩, hbel⟩
            by_cases e : x = r
            · subst e; dsimp only; rw [if_pos rfl]
              exact ⟨by have := hin.2.2.2.1; omega, hin.2.2.2.2, hin.2.2.1.congr (fun k hk => by rw [if_pos (Nat.zero_le _)])⟩
            · dsimp only; rw [if_neg e]
              obtain ⟨h1, h2, h3, h4⟩ := hin.2.1 x (by omega) hxn
              exact ⟨h1, h2, h4⟩
          case measure => simp [intOf]
        | succ k =>
          have ek : ((k + 1 : Nat) : Int) - 1 = (k : Int) := by omega
          rw [ek]
          have hcr : wr.cell? ⟨w.heap.size, r, none⟩ = some (.slice (some ⟨g, 0, none⟩) (b.length + 1) (b.length + 1)) := by
            have := hin.1.cell (i := r) (by omega); simpa using this
          have hfk := hin.2.2.1.frozen k
          have hck := hin.2.2.1.cell (i := k) (by omega)
          rw [if_neg (by omega)] at hck
          have hgg := hin.2.2.2
          by_cases hr : r = a.length
          · have HD := Lib.hid (show dD a b r k = b.length - k by rw [hr]; exact dD_last a b k (by omega))
            have hq1 : ((r : Int) == (a.length : Int)) = true := by simp; omega
            have HR := Lib.hid hr
            clear hr
            go_wp2_with fail
            go_roundw
            case rel =>
              refine ⟨k, by omega, rfl, ⟨(hin.1.setOther (by show w.heap.size ≠ g; omega) _), fun x hx hxn => ?_, World.rowIs.congr ((hin.2.2.1.set k _)) (fun j hj => ?_), hin.2.2.2⟩, (hbel.setCell (by show w.heap.size ≤ g; omega) _)⟩
              · obtain ⟨h1, h2, h3, h4⟩ := hin.2.1 x hx hxn
                exact ⟨h1, h2, h3, (h4.setOther (by exact h3) _)⟩
              · by_cases e : j = k
                · subst e; rw [if_pos rfl, if_pos (Nat.le_refl _), HD.out]; first | rfl | (congr 1; omega) | (congr 1; repeat' split; all_goals omega)
                · rw [if_neg e]
                  by_cases e2 : k + 1 ≤ j
                  · rw [if_pos e2, if_pos (by omega)]
                  · rw [if_neg e2, if_neg (by omega)]
            case measure => simp [intOf]
          · by_cases hkm : k = b.length
            · have HD := Lib.hid (show dD a b r k = a.length - r by rw [hkm]; exact dD_right a b r (by omega))
              have hq1 : ((r : Int) == (a.length : Int)) = false := by simp; omega
              have hq2 : ((k : Int) == (b.length : Int)) = true := by simp; omega
              have HR := Lib.hid hkm
              clear hkm
              go_wp2_with fail
              go_roundw
              case rel =>
                refine ⟨k, by omega, rfl, ⟨(hin.1.setOther (by show w.heap.size ≠ g; omega) _), fun x hx hxn => ?_, World.rowIs.congr ((hin.2.2.1.set k _)) (fun j hj => ?_), hin.2.2.2⟩, (hbel.setCell (by show w.heap.size ≤ g; omega) _)⟩
                · obtain ⟨h1, h2, h3, h4⟩ := hin.2.1 x hx hxn
                  exact ⟨h1, h2, h3, (h4.setOther (by exact h3) _)⟩
                · by_cases e : j = k
                  · subst e; rw [if_pos rfl, if_pos (Nat.le_refl _), HD.out]; first | rfl | (congr 1; omega) | (congr 1; repeat' split; all_goals omega)
                  · rw [if_neg e]
                    by_cases e2 : k + 1 ≤ j
                    · rw [if_pos e2, if_pos (by omega)]
                    · rw [if_neg e2, if_neg (by omega)]
              case measure => simp [intOf]
            · have hrl : r < a.length := by omega
              have hkl : k < b.length := by omega
              have hq1 : ((r : Int) == (a.length : Int)) = false := by simp; omega
              have hq2 : ((k : Int) == (b.length : Int)) = false := by simp; omega
              obtain ⟨ba, oa, rfl, _, cca⟩ := SRow.at_ (hra.below hbel) hrl
              obtain ⟨bb, ob, rfl, _, ccb⟩ := SRow.at_ (hrb.below hbel) hkl
              obtain ⟨h1, h2, h3, h4⟩ := hin.2.1 (r + 1) (by omega) (by omega)
              have hcr1 : wr.cell? ⟨w.heap.size, r + 1, none⟩ = some (.slice (some ⟨H (r + 1), 0, none⟩) (b.length + 1) (b.length + 1)) := by
                have := hin.1.cell (i := r + 1) (by omega); simpa using this
              have x1 : wr.cell? ⟨H (r + 1), k + 1, none⟩ = some (.int .i64 (dD a b (r + 1) (k + 1))) := h4.cell (by omega)
              have x2 : wr.cell? ⟨H (r + 1), k, none⟩ = some (.int .i64 (dD a b (r + 1) k)) := h4.cell (by omega)
              have x3 : wr.cell? ⟨g, k + 1, none⟩ = some (.int .i64 (dD a b r (k + 1))) := by
                rw [hin.2.2.1.cell (by omega), if_pos (Nat.le_refl _)]
              have y1 := dD_le a b (r + 1) k
              have y2 := dD_le a b r (k + 1)
              have y3 := dD_le a b (r + 1) (k + 1)
              by_cases hab : a[r] = b[k]
              · have HD := Lib.hid (dD_eq a b r k hrl hkl hab)
                have hqs := bytes_eq hab
                have HAB := Lib.hid hab
                clear hab h4
                have HIN := Lib.hid hin
                clear hin
                generalize a[r] = sa at *
                generalize b[k] = sb at *
                go_wp2_with fail
                go_quiet (fail)
                go_wp2_with fail
                go_region
                all_goals go_wp2_with fail
                go_roundw
                case rel =>
                  have hin := HIN.out
                  refine ⟨k, by omega, rfl, ⟨(hin.1.setOther (by show w.heap.size ≠ g; omega) _), fun x hx hxn => ?_, World.rowIs.congr ((hin.2.2.1.set k _)) (fun j hj => ?_), hin.2.2.2⟩, below_drewN (hbel.setCell (by show w.heap.size ≤ g; omega) _) _⟩
                  · obtain ⟨h1, h2, h3, h4⟩ := hin.2.1 x hx hxn
                    exact ⟨h1, h2, h3, (h4.setOther (by exact h3) _)⟩
                  · by_cases e : j = k
                    · subst e; rw [if_pos rfl, if_pos (Nat.le_refl _), HD.out]
                      all_goals first | rfl | (congr 1; omega) | (congr 1; repeat' split; all_goals omega)
                    · rw [if_neg e]
                      by_cases e2 : k + 1 ≤ j
                      · rw [if_pos e2, if_pos (by omega)]
                      · rw [if_neg e2, if_neg (by omega)]
                case measure => simp [intOf]
              · have HD := Lib.hid (dD_ne a b r k hrl hkl hab)
                have hqs := bytes_ne hab
                have HAB := Lib.hid hab
                clear hab h4
                have HIN := Lib.hid hin
                clear hin
                generalize a[r] = sa at *
                generalize b[k] = sb at *
                go_wp2_with fail
                go_quiet (fail)
                go_wp2_with fail
                go_region
                all_goals go_wp2_with fail
                go_roundw
                case rel =>
                  have hin := HIN.out
                  refine ⟨k, by omega, rfl, ⟨(hin.1.setOther (by show w.heap.size ≠ g; omega) _), fun x hx hxn => ?_, World.rowIs.congr ((hin.2.2.1.set k _)) (fun j hj => ?_), hin.2.2.2⟩, below_drewN (hbel.setCell (by show w.heap.size ≤ g; omega) _) _⟩
                  · obtain ⟨h1, h2, h3, h4⟩ := hin.2.1 x hx hxn
                    exact ⟨h1, h2, h3, (h4.setOther (by exact h3) _)⟩
                  · by_cases e : j = k
                    · subst e; rw [if_pos rfl, if_pos (Nat.le_refl _), HD.out]
                      all_goals first | rfl | (congr 1; omega) | (congr 1; repeat' split; all_goals omega)
                    · rw [if_neg e]
                      by_cases e2 : k + 1 ≤ j
                      · rw [if_pos e2, if_pos (by omega)]
                      · rw [if_neg e2, if_neg (by omega)]
                case measure => simp [intOf]
end Go.Proofs.Ytpgjjnbepkofdaa
