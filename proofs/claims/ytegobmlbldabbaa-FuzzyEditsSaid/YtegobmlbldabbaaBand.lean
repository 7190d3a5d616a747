/-
  The walk of fuzzy.band and fuzzy.Near, where the two words are near enough: the band says so.
-/
import Derived.Test.YtegobmlbldabbaaFar
namespace Go.Proofs.Ytegobmlbldabbaa
open Go.RowKit
set_option linter.unusedVariables false

@[go_sem] theorem run_min_int4 {P : Program} {w : World} (ts : Array TypeId) (t : TypeId) (k k1 k2 k3 : IntKind) (x y z u : Int) : (Builtin.min_ ts t #[.int k x, .int k1 y, .int k2 z, .int k3 u]).run P w = .ok (.int k (if u < (if z < (if y < x then y else x) then z else (if y < x then y else x)) then u else (if z < (if y < x then y else x) then z else (if y < x then y else x)))) w := by
  simp [Builtin.min_, Builtin.min2]
theorem min4 {P : Program} (ts : Array TypeId) (t : TypeId) (p0 p1 p2 p3 q : Nat) (x y z u : Int) (hx : x = p0) (hy : y = p1) (hz : z = p2) (hu : u = p3) (h : q = min p0 (min p1 (min p2 p3))) (w : World) : (Builtin.min_ ts t #[.int .i64 x, .int .i64 y, .int .i64 z, .int .i64 u]).run P w = .ok (.int .i64 (q : Int)) w := by
  rw [run_min_int4]
  congr 2
  subst hx hy hz hu
  repeat' split
  all_goals omega
theorem lvD_ge (a b : List UInt8) (i k : Nat) (hi : i ≤ a.length) (hk : k ≤ b.length) : i ≤ lvD a b i k + k ∧ k ≤ lvD a b i k + i := by
  have := Lv.lev_ge (a.take i).reverse (b.take k).reverse
  simp only [List.length_reverse, List.length_take] at this
  unfold lvD; omega
/-- The distance of beginnings, cut at the greatest one that matters. -/
def cp (a b : List UInt8) (m i k : Nat) : Nat := min (lvD a b i k) (m + 1)
theorem cp_out (a b : List UInt8) (m i k : Nat) (hi : i ≤ a.length) (hk : k ≤ b.length) (h : k + m < i ∨ i + m < k) : cp a b m i k = m + 1 := by
  have := lvD_ge a b i k hi hk
  unfold cp; omega
theorem cp_step (a b : List UInt8) (m i k : Nat) (hi : i < a.length) (hk : k < b.length) :
    cp a b m (i + 1) (k + 1) = min (cp a b m i k + Lv.neq a[i] b[k]) (min (cp a b m (i + 1) k + 1) (min (cp a b m i (k + 1) + 1) (m + 1))) := by
  unfold cp; rw [lvD_step a b i k hi hk]; omega
theorem cp_left (a b : List UInt8) (m i : Nat) (h : i ≤ a.length) : cp a b m i 0 = min i (m + 1) := by unfold cp; rw [lvD_left a b i h]
theorem cp_right (a b : List UInt8) (m k : Nat) (h : k ≤ b.length) : cp a b m 0 k = min k (m + 1) := by unfold cp; rw [lvD_right a b k h]
theorem cp_le (a b : List UInt8) (m i k : Nat) : cp a b m i k ≤ m + 1 := by unfold cp; omega
set_option maxRecDepth 100000 in
set_option maxHeartbeats 8000000 in
theorem band_near (a b : ByteArray) (m : Nat) (w : World) (ha : a.size ≤ 20) (hb : b.size ≤ 20) (hm : m ≤ 20) (hn : Lv.lev a.data.toList b.data.toList ≤ m) :
    Calls Try.prog 53 #[.string a, .string b, .int .i64 (m : Int)] w fun e w' => e = .returned (.bool true) ∧ Below w.heap.size w w' := by
  have hla : a.data.toList.length = a.size := by simp
  have hlb : b.data.toList.length = b.size := by simp
  have hge := Lv.lev_ge a.data.toList b.data.toList
  rw [hla, hlb] at hge
  have hfar : a.size ≤ b.size + m ∧ b.size ≤ a.size + m := by omega
  have HN := Lib.hid hn
  have HLA := Lib.hid hla
  have HLB := Lib.hid hlb
  clear hn hla hlb hge
  have hd1 : (a.size : Int) - (b.size : Int) ≤ (m : Int) := by omega
  have hd2 : (b.size : Int) - (a.size : Int) ≤ (m : Int) := by omega
  obtain ⟨qd, hmx, hqm⟩ : ∃ q : Nat, (if (a.size : Int) - (b.size : Int) < (b.size : Int) - (a.size : Int) then (b.size : Int) - (a.size : Int) else (a.size : Int) - (b.size : Int)) = (q : Int) ∧ q ≤ m := ⟨(a.size - b.size) + (b.size - a.size), by split <;> omega, by omega⟩
  have hmk : ∀ W : World, (Instr.makeSlice 22 (.int .i64 ((b.size : Int) + 1)) (.int .i64 ((b.size : Int) + 1))).run Try.prog W = .ok (.slice (some ⟨W.heap.size, 0, none⟩) (b.size + 1) (b.size + 1)) (W.alloc (.cells (madeCells #[.int .i64 0] (b.size + 1)) 3)) :=
    fun W => run_make_row' (P := Try.prog) 22 3 (.int .i64 0) 8 Try.underlying22 int_info rfl .i64 .i64 (b.size + 1) (by omega) (by omega) W
  have HMK := Lib.hid hmk
  go_enter Try.func53, Try.ntmps53
  go_wp2_with fail
  clear hmk hmx
  go_loopw [36] (fun i wr => ∃ k : Nat, k ≤ b.size + 1 ∧ i = .int .i64 k ∧ wr.rowIs w.heap.size 3 (b.size + 1) (fun j => .int .i64 (if j < k then ((min j (m + 1) : Nat) : Int) else 0)) ∧ Below w.heap.size w wr) (fun i _ => b.size + 1 - (intOf i).toNat)
  case atStart => exact ⟨0, by omega, rfl, World.rowIs_made w _ _ _, (Below.refl _ _).alloc (Nat.le_refl _) _⟩
  case round =>
    obtain ⟨k, hk, rfl, hrow, hbel⟩ := hrel
    by_cases hlt : k < b.size + 1
    · have hc := hrow.cell hlt
      have hf := hrow.frozen k
      obtain ⟨q, hq, hq2⟩ : ∃ q : Nat, (if (m : Int) + 1 < (k : Int) then (m : Int) + 1 else (k : Int)) = (q : Int) ∧ q = min k (m + 1) := ⟨min k (m + 1), by split <;> omega, rfl⟩
      have HQ := Lib.hid hq2
      clear hq2
      go_wp2_with fail
      go_roundw
      case rel =>
        refine ⟨k + 1, by omega, by go_num, (hrow.set k _).congr (fun j hj => ?_), hbel.setCell (Nat.le_refl _) _⟩
        by_cases e : j = k
        · subst e
          simp only [if_true, Nat.lt_succ_self]
          congr 1
          have := HQ.out
          omega
        · rw [if_neg e]; congr 1; by_cases e2 : j < k
          · rw [if_pos e2, if_pos (by omega)]
          · rw [if_neg e2, if_neg (by omega)]
      case measure => simp [intOf]; omega
    · have hrow1 : wr.rowIs w.heap.size 3 (b.size + 1) (fun j => .int .i64 (cp a.data.toList b.data.toList m 0 j : Nat)) := hrow.congr (fun j hj => by rw [if_pos (by omega), cp_right _ _ _ _ (by rw [HLB.out]; omega)])
      clear hrow
      go_wp2_with fail
      obtain ⟨wo, rfl⟩ : ∃ wo : World, wo = wr := ⟨_, rfl⟩
      go_loopw [8, 48] (fun v i wr => ∃ n g : Nat, n ≤ a.size ∧ i = .int .i64 n ∧ v = .slice (some ⟨g, 0, none⟩) (b.size + 1) (b.size + 1) ∧ w.heap.size ≤ g ∧ wr.rowIs g 3 (b.size + 1) (fun j => .int .i64 (cp a.data.toList b.data.toList m n j : Nat)) ∧ Below w.heap.size w wr) (fun _ i _ => a.size - (intOf i).toNat)
      case atStart => exact ⟨0, w.heap.size, by omega, rfl, rfl, Nat.le_refl _, hrow1, hbel⟩
      case round =>
        clear hbel hrow1
        obtain ⟨n, g, hn, rfl, rfl, hg, hrow, hbel⟩ := hrel
        by_cases hlt2 : n < a.size
        · have hgl := hrow.lt
          have hws := hbel.size
          have hrow0 := rowIs_later hrow ((Below.refl wr.heap.size wr).alloc (Nat.le_refl _) (.cells (madeCells #[.int .i64 0] (b.size + 1)) 3))
          have hbel0 := hbel.alloc hws (.cells (madeCells #[.int .i64 0] (b.size + 1)) 3)
          have hnew0 := World.rowIs_made wr (.int .i64 0) (b.size + 1) 3
          have hmk := HMK.out
          clear hrow hbel
          go_wp2_with fail
          clear hmk
          generalize hG : wr.heap.size = G at *
          have HG := Lib.hid hG
          clear hG
          obtain ⟨wo, rfl⟩ : ∃ wo : World, wo = wr := ⟨_, rfl⟩
          go_loopw [57] (fun i wq => ∃ k : Nat, k ≤ b.size + 1 ∧ i = .int .i64 k ∧ wq.rowIs g 3 (b.size + 1) (fun j => .int .i64 (cp a.data.toList b.data.toList m n j : Nat)) ∧ wq.rowIs G 3 (b.size + 1) (fun j => .int .i64 (if j < k then (m : Int) + 1 else 0)) ∧ Below w.heap.size w wq) (fun i _ => b.size + 1 - (intOf i).toNat)
          case atStart => exact ⟨0, by omega, rfl, hrow0, hnew0, hbel0⟩
          case round =>
            clear hrow0 hnew0 hbel0
            obtain ⟨k, hk, rfl, hrow, hnew, hbel⟩ := hrel
            by_cases hlt3 : k < b.size + 1
            · have hc := hnew.cell hlt3
              have hf := hnew.frozen k
              go_wp2_with fail
              go_roundw
              case rel =>
                refine ⟨k + 1, by omega, by go_num, hrow.of_block (Below.heap_setCell _ _ _ _ (show g ≠ G by omega)), (hnew.set k _).congr (fun j hj => ?_), hbel.setCell (show w.heap.size ≤ G by omega) _⟩
                by_cases e : j = k
                · subst e; rw [if_pos rfl, if_pos (by omega)]
                · rw [if_neg e]; congr 1; by_cases e2 : j < k
                  · rw [if_pos e2, if_pos (by omega)]
                  · rw [if_neg e2, if_neg (by omega)]
              case measure => simp [intOf]; omega
            · have hnew1 : wr.rowIs G 3 (b.size + 1) (fun j => .int .i64 ((m : Int) + 1)) := hnew.congr (fun j hj => by rw [if_pos (by omega)])
              clear hnew
              obtain ⟨k0, hk0, hk0e⟩ : ∃ q : Nat, (if (m : Int) < (n : Int) + 1 then (n : Int) + 1 - (m : Int) else 0) = (q : Int) ∧ q = n + 1 - m := ⟨n + 1 - m, by split <;> omega, rfl⟩
              obtain ⟨k1, hk1, hk1e⟩ : ∃ q : Nat, (if (n : Int) + 1 + (m : Int) < (b.size : Int) then (n : Int) + 1 + (m : Int) else (b.size : Int)) = (q : Int) ∧ q = min b.size (n + 1 + m) := ⟨min b.size (n + 1 + m), by split <;> omega, rfl⟩
              have HK0 := Lib.hid hk0e
              have HK1 := Lib.hid hk1e
              clear hk0e hk1e
              go_wp2_with fail
              clear hk0
              have HR := Lib.hid hrow
              have HW := Lib.hid hnew1
              have HBL := Lib.hid hbel
              have HTA : Hid (a.data.toList.length = a.size ∧ b.data.toList.length = b.size) := Lib.hid ⟨HLA.out, HLB.out⟩
              clear hrow hnew1 hbel
              have hk1s : (k1 : Int) ≤ (b.size : Int) := by have := HK1.out; omega
              obtain ⟨wo, rfl⟩ : ∃ wo : World, wo = wr := ⟨_, rfl⟩
              go_loopw [13] (fun i wq => ∃ k : Nat, k0 ≤ k ∧ (k = k0 ∨ k ≤ k1 + 1) ∧ i = .int .i64 k ∧ wq.rowIs g 3 (b.size + 1) (fun j => .int .i64 (cp a.data.toList b.data.toList m n j : Nat)) ∧ wq.rowIs G 3 (b.size + 1) (fun j => .int .i64 (if j < k then (cp a.data.toList b.data.toList m (n + 1) j : Nat) else (m : Int) + 1)) ∧ Below w.heap.size w wq) (fun i _ => k1 + 1 - (intOf i).toNat)
              case atStart =>
                refine ⟨k0, Nat.le_refl _, .inl rfl, rfl, HR.out, HW.out.congr (fun j hj => ?_), HBL.out⟩
                by_cases e : j < k0
                · rw [if_pos e, cp_out _ _ _ _ _ (by rw [HLA.out]; omega) (by rw [HLB.out]; omega) (by have := HK0.out; omega)]; simp
                · rw [if_neg e]
              case round =>
                clear HR HW HBL
                obtain ⟨k, hkk0, hkk1, rfl, hrow, hnew, hbel⟩ := hrel
                by_cases hlt4 : k ≤ k1
                · have hk1o := HK1.out
                  by_cases hkz : k = 0
                  · subst hkz
                    have hc := hnew.cell (i := 0) (by omega)
                    have hf := hnew.frozen 0
                    have HCL := Lib.hid (cp_left a.data.toList b.data.toList m (n + 1) (by rw [HLA.out]; omega))
                    clear hk1o
                    go_wp2_with fail
                    go_roundw
                    case rel =>
                      refine ⟨1, by omega, .inr (by omega), rfl, hrow.of_block (Below.heap_setCell _ _ _ _ (show g ≠ G by omega)), (hnew.set 0 _).congr (fun j hj => ?_), hbel.setCell (show w.heap.size ≤ G by omega) _⟩
                      by_cases e : j = 0
                      · subst e
                        rw [if_pos rfl, if_pos (show (0 : Nat) < 1 by omega), HCL.out]
                        generalize hz : min (n + 1) (m + 1) = z
                        congr 1
                        split <;> omega
                      · rw [if_neg e, if_neg (by omega), if_neg (by omega)]
                    case measure => simp [intOf]
                  · obtain ⟨j, rfl⟩ : ∃ j, k = j + 1 := ⟨k - 1, by omega⟩
                    have hc1 : wr.cell? ⟨G, j, none⟩ = some (.int .i64 (cp a.data.toList b.data.toList m (n + 1) j : Nat)) := by
                      rw [hnew.cell (by omega), if_pos (by omega)]
                    have hc0 : wr.cell? ⟨G, j + 1, none⟩ = some (.int .i64 ((m : Int) + 1)) := by
                      rw [hnew.cell (by omega), if_neg (by omega)]
                    have hc2 : wr.cell? ⟨g, j, none⟩ = some (.int .i64 (cp a.data.toList b.data.toList m n j : Nat)) := hrow.cell (by omega)
                    have hc3 : wr.cell? ⟨g, j + 1, none⟩ = some (.int .i64 (cp a.data.toList b.data.toList m n (j + 1) : Nat)) := hrow.cell (by omega)
                    have hf := hnew.frozen (j + 1)
                    have hjb : j < b.size := by omega
                    have hst := cp_step a.data.toList b.data.toList m n j (by rw [HLA.out]; exact hlt2) (by rw [HLB.out]; exact hjb)
                    have hb0 := cp_le a.data.toList b.data.toList m n j
                    have hb1 := cp_le a.data.toList b.data.toList m (n + 1) j
                    have hb2 := cp_le a.data.toList b.data.toList m n (j + 1)
                    have ea : a.data.toList[n]'(by rw [HLA.out]; exact hlt2) = a[n] := rfl
                    have eb : b.data.toList[j]'(by rw [HLB.out]; exact hjb) = b[j] := rfl
                    rw [ea, eb] at hst
                    have H1 := Lib.hid hst
                    have H2 := Lib.hid hnew
                    have H2R := Lib.hid hrow
                    clear ea eb hst hnew hrow hk1o hkz
                    generalize hQQ : cp a.data.toList b.data.toList m (n + 1) (j + 1) = Q at *
                    have HQQ := Lib.hid hQQ
                    clear hQQ
                    generalize cp a.data.toList b.data.toList m n j = p0 at *
                    generalize hp1 : cp a.data.toList b.data.toList m (n + 1) j = p1 at *
                    generalize hp2 : cp a.data.toList b.data.toList m n (j + 1) = p2 at *
                    clear hp1 hp2
                    have hba := byte_lt a[n]
                    have hbb := byte_lt b[j]
                    by_cases hne : a[n] = b[j]
                    · have hq : ((a[n].toNat : Int) == (b[j].toNat : Int)) = true := by rw [hne]; simp
                      have hq2 : ((a[n].toNat : Int) != (b[j].toNat : Int)) = false := by rw [hne]; simp
                      have H5 := Lib.hid (show Lv.neq a[n] b[j] = 0 by unfold Lv.neq; rw [if_pos hne])
                      have hmin := fun ts t W => min4 (P := Try.prog) ts t p0 (p1 + 1) (p2 + 1) (m + 1) Q (p0 : Int) ((p1 : Int) + 1) ((p2 : Int) + 1) ((m : Int) + 1) (by omega) (by omega) (by omega) (by omega) (by have h1 := H1.out; have h5 := H5.out; omega) W
                      clear hne
                      go_wp2_with fail
                      go_region
                      go_wp2_with fail
                      go_region
                      go_wp2_with fail
                      go_roundw
                      case rel =>
                        refine ⟨j + 1 + 1, by omega, .inr (by omega), by go_num, (H2R.out.of_block (Below.heap_setCell _ _ _ _ (show g ≠ G by omega))).drew.drew, World.rowIs.congr ((H2.out.set (j + 1) _).drew.drew) (fun i hi => ?_), (hbel.setCell (show w.heap.size ≤ G by omega) _).drew.drew⟩
                        by_cases e : i = j + 1
                        · subst e
                          rw [if_pos rfl, if_pos (Nat.lt_succ_self _), HQQ.out]
                        · rw [if_neg e]
                          by_cases e2 : i < j + 1
                          · rw [if_pos e2, if_pos (by omega)]
                          · rw [if_neg e2, if_neg (by omega)]
                      case measure => simp [intOf]; omega
                    · have hq : ((a[n].toNat : Int) == (b[j].toNat : Int)) = false := by rw [beq_eq_false_iff_ne]; intro e; exact hne (UInt8.toNat_inj.1 (by omega))
                      have hq2 : ((a[n].toNat : Int) != (b[j].toNat : Int)) = true := by rw [bne_iff_ne]; intro e; exact hne (UInt8.toNat_inj.1 (by omega))
                      have H5 := Lib.hid (show Lv.neq a[n] b[j] = 1 by unfold Lv.neq; rw [if_neg hne])
                      have hmin := fun ts t W => min4 (P := Try.prog) ts t (p0 + 1) (p1 + 1) (p2 + 1) (m + 1) Q ((p0 : Int) + 1) ((p1 : Int) + 1) ((p2 : Int) + 1) ((m : Int) + 1) (by omega) (by omega) (by omega) (by omega) (by have h1 := H1.out; have h5 := H5.out; omega) W
                      clear hne
                      go_wp2_with fail
                      go_region
                      go_wp2_with fail
                      go_region
                      go_wp2_with fail
                      go_roundw
                      case rel =>
                        refine ⟨j + 1 + 1, by omega, .inr (by omega), by go_num, (H2R.out.of_block (Below.heap_setCell _ _ _ _ (show g ≠ G by omega))).drew.drew, World.rowIs.congr ((H2.out.set (j + 1) _).drew.drew) (fun i hi => ?_), (hbel.setCell (show w.heap.size ≤ G by omega) _).drew.drew⟩
                        by_cases e : i = j + 1
                        · subst e
                          rw [if_pos rfl, if_pos (Nat.lt_succ_self _), HQQ.out]
                        · rw [if_neg e]
                          by_cases e2 : i < j + 1
                          · rw [if_pos e2, if_pos (by omega)]
                          · rw [if_neg e2, if_neg (by omega)]
                      case measure => simp [intOf]; omega
                · have hk1o := HK1.out
                  have hnew2 : wr.rowIs G 3 (b.size + 1) (fun j => .int .i64 (cp a.data.toList b.data.toList m (n + 1) j : Nat)) := hnew.congr (fun j hj => by
                    by_cases e : j < k
                    · rw [if_pos e]
                    · rw [if_neg e, cp_out _ _ _ _ _ (by rw [HLA.out]; omega) (by rw [HLB.out]; omega) (by have := HK0.out; omega)]; simp)
                  clear hnew hrow hk1o
                  go_wp2_with fail
                  go_roundw
                  case rel => exact ⟨n + 1, G, by omega, by go_num, rfl, by omega, hnew2, hbel⟩
                  case measure => simp [intOf]; omega
        · have hc := hrow.cell (i := b.size) (by omega)
          have hcv : cp a.data.toList b.data.toList m n b.size ≤ m := by
            have e1 : n = a.data.toList.length := by rw [HLA.out]; omega
            rw [e1, ← HLB.out]; unfold cp; rw [lvD_all]; have := HN.out; omega
          clear hrow
          generalize cp a.data.toList b.data.toList m n b.size = z at *
          go_wp2_with fail
          go_ret
          exact ⟨rfl, hbel⟩
end Go.Proofs.Ytegobmlbldabbaa
