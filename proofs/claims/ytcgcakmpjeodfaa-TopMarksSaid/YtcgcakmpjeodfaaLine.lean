/-
  The walk of lines.Line: in which line a place is, of starts that ascend. Nothing that was there is changed.
-/
import Derived.Test.YtcgcakmpjeodfaaPosL
import Derived.Shelf.SlSorted.Search
import Derived.Test.YtcgcakmpjeodfaaMay
namespace Go.Proofs.Ytcgcakmpjeodfaa
open Go.RowKit Go.Shelf Go.Sort
set_option linter.unusedVariables false

def siS_ren : Go.Shelf.Ren := ⟨fun | 16 => 46 | n => n, fun | 0 => 0 | 3 => 3 | 4 => 4 | 35 => 97 | 38 => 117 | n => n, fun n => n⟩
theorem siS : SlLaysO.n16 Try.prog siS_ren := {
  mixed := by kernel_rfl
  f16 := Try.func46.trans (congrArg some (by kernel_rfl))
  t3 := Try.underlying3
  a3 := Try.isAgg3
  z3 := Try.sizeOf3
  v3 := Try.zeroValue3
  t4 := Try.underlying4
  a4 := Try.isAgg4
  z4 := Try.sizeOf4
  v4 := Try.zeroValue4
  t35 := Try.underlying97
  a35 := Try.isAgg97
  z35 := Try.sizeOf97
  v35 := Try.zeroValue97
  t38 := Try.underlying117
  a38 := Try.isAgg117
  z38 := Try.sizeOf117
  v38 := Try.zeroValue117 }
theorem line_count (L : List Int) (k : Nat) : (List.range L.length).countP (fun i => !decide ((k : Int) < L.getD i 0)) = atMost k L := by
  have e : L = (List.range L.length).map (fun i => L.getD i 0) := by
    apply List.ext_getElem (by simp)
    intro i h1 h2
    simp [List.getD, h1]
  unfold atMost
  conv => rhs; rw [e, List.countP_map]
  congr 1
  funext i
  simp only [Function.comp]
  by_cases h : (k : Int) < L.getD i 0
  · have h2 : ¬ L.getD i 0 ≤ (k : Int) := by omega
    rw [decide_eq_true h, decide_eq_false h2]; rfl
  · have h2 : L.getD i 0 ≤ (k : Int) := by omega
    rw [decide_eq_false h, decide_eq_true h2]; rfl
set_option maxHeartbeats 2000000 in
theorem lineClosure_any (ba bx b off cap : Nat) (L : List Int) (k i : Nat) (W : World) (hi : i < L.length)
    (ha : W.cell? ⟨ba, 0, none⟩ = some (.slice (some ⟨b, off, none⟩) L.length cap)) (hx : W.cell? ⟨bx, 0, none⟩ = some (.int .i64 (k : Int))) (hc : W.cell? ⟨b, off + i, none⟩ = some (.int .i64 (L.getD i 0))) :
    Calls Try.prog 47 (#[.int .i64 i] ++ #[.pointer (some ⟨ba, 0, none⟩), .pointer (some ⟨bx, 0, none⟩)]) W fun e w' => e = .returned (.bool (decide ((k : Int) < L.getD i 0))) ∧ ∃ q os, w' = grow (W.drewN q) os := by
  generalize L.getD i 0 = y at *
  have hiz : (i : Int) < (L.length : Int) := by omega
  go_enter Try.func47, Try.ntmps47
  go_wp2_with fail
  go_region
  all_goals go_wp2_with fail
  all_goals go_ret
  all_goals exact ⟨rfl, 1, #[], by rw [grow_empty]; rfl⟩
set_option maxRecDepth 100000 in
set_option maxHeartbeats 2000000 in
theorem line_any (v : Value) (L : List Int) (k : Nat) (w : World) (h : Row .i64 w v L) (ha : Asc L) (hl : L.length ≤ 1000) (hs : ∀ i j, i ≤ j → j < L.length → L.getD i 0 ≤ L.getD j 0) :
    Calls Try.prog 17 #[v, .int .i64 k] w fun e w' => e = .returned (.tuple #[.int .i64 ((atMost k L : Int) - 1), .int .i64 0]) ∧ Below w.heap.size w w' := by
  have MAY := Lib.hid (fun W (h : Row .i64 W v L) => may_any v L W h ha hl)
  have h0 := ha.1
  obtain ⟨A, cap, rfl, hlc, hcap, hwf, hrd⟩ := id h
  unfold maxLen at hcap
  obtain ⟨b, off, rfl, hb, hcell⟩ := hrd.plain h0 (by omega)
  have R1 := Lib.hid (fun (o1 o2 : Obj) => ((h.later ((Below.refl _ w).alloc (Nat.le_refl _) o1)).later ((Below.refl _ _).alloc (Nat.le_refl _) o2)))
  obtain ⟨W0, hW0⟩ : ∃ W0, W0 = (w.alloc (.cells #[.slice (some ⟨b, off, none⟩) L.length cap] 22)).alloc (.cells #[.int .i64 (k : Int)] 3) := ⟨_, rfl⟩
  have hsize : W0.heap.size = w.heap.size + 1 + 1 := by rw [hW0]; simp
  have ca : W0.cell? ⟨w.heap.size, 0, none⟩ = some (.slice (some ⟨b, off, none⟩) L.length cap) := by rw [hW0]; exact cell_alloc_sl _ (cell_new_sl w _ _)
  have cx : W0.cell? ⟨w.heap.size + 1, 0, none⟩ = some (.int .i64 (k : Int)) := by rw [hW0]; have := cell_new_sl (w.alloc (.cells #[.slice (some ⟨b, off, none⟩) L.length cap] 22)) (.int .i64 (k : Int)) 3; rwa [World.size_alloc] at this
  have cc : ∀ i, i < L.length → W0.cell? ⟨b, off + i, none⟩ = some (.int .i64 (L.getD i 0)) := fun i hi => by rw [hW0]; exact cell_alloc_sl _ (cell_alloc_sl _ (hcell i _ (by simp [List.getD, hi])))
  have eg : ∀ args w, (callFunc 47 args).run Try.prog w = .ok (.enter 47 args) w := enters_of Try.func47 (by kernel_rfl) rfl
  have hS := Lib.hid (Any.sort_Search siS 47 #[.pointer (some ⟨w.heap.size, 0, none⟩), .pointer (some ⟨w.heap.size + 1, 0, none⟩)] L.length (fun i => decide ((k : Int) < L.getD i 0)) W0 eg (by omega)
    (fun m os i hi => (lineClosure_any w.heap.size (w.heap.size + 1) b off cap L k i _ hi (cell_grown (by simp [hsize]; omega) ca m os) (cell_grown (by simp [hsize]) cx m os) (cell_grown (by simp [hsize]; omega) (cc i hi) m os)).mono
      fun _ _ ⟨he, q, os', hq⟩ => ⟨he, q, os', hq⟩) (fun a b2 hab hb2 hp => by
        have := hs a b2 hab hb2
        simp only [decide_eq_true_eq] at hp ⊢; omega))
  have R2 := Lib.hid (show Row .i64 W0 (.slice (some ⟨b, off, none⟩) L.length cap) L by rw [hW0]; exact R1.out _ _)
  have KB := Lib.hid (show Below w.heap.size w W0 by rw [hW0]; exact ((Below.refl _ w).alloc (Nat.le_refl _) _).alloc (by simp) _)
  have HW := Lib.hid hW0
  have HC := Lib.hid (line_count L k)
  have hal := Lib.hid (show atMost k L ≤ L.length from List.countP_le_length)
  clear hW0 R1 h hwf hrd hcell cc eg ha hs hb
  have hS' := Lib.hid (show Calls Try.prog 46 #[.int .i64 (L.length : Int), .func (.func 47) #[] #[.pointer (some ⟨w.heap.size, 0, none⟩), .pointer (some ⟨w.heap.size + 1, 0, none⟩)]] W0 fun e w' => e = .returned (.int .i64 (atMost k L : Int)) ∧ Below W0.heap.size W0 w' from
    hS.out.mono (by rintro e w' ⟨he, q, os, rfl⟩; exact ⟨by rw [he, HC.out], below_grown_sl _ W0 q os (Nat.le_refl _)⟩))
  clear hS HC
  have hal2 : atMost k L ≤ 1000 := by have := hal.out; omega
  generalize atMost k L = n at *
  go_enter Try.func17, Try.ntmps17
  go_wp2_with fail
  rw [← HW.out]
  clear HW
  refine (MAY.out _ R2.out).mono ?_
  rintro e w1 ⟨rfl, rfl⟩
  go_wp2_with fail
  refine hS'.out.mono ?_
  rintro e w1 ⟨rfl, hb1⟩
  go_wp2_with fail
  go_ret2
  exact ⟨rfl, KB.out.trans (hb1.mono KB.out.size)⟩
end Go.Proofs.Ytcgcakmpjeodfaa
