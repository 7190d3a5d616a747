/-
  The walks of spans.Add and Cut at sets that may be.
-/
import Derived.Test.YtddbhoilhapljaaSpanK
namespace Go.Proofs.Ytddbhoilhapljaa
open Go.RowKit Go.Shelf
set_option linter.unusedVariables false
set_option linter.unusedSimpArgs false

theorem mem_lt {l : List Sp} {n : Nat} (h : ∀ x ∈ l, x.hi ≤ n) : ∀ j, inS l j = true → j < n := by
  intro j hj
  unfold inS at hj
  rw [List.any_eq_true] at hj
  obtain ⟨x, hx, h2⟩ := hj
  have := h x hx
  simp at h2
  omega
theorem hi_le {l : List Sp} {b n : Nat} (hN : Nrm b l) (h : ∀ j, inS l j = true → j < n) : ∀ x ∈ l, x.hi ≤ n := by
  intro x hx
  have h1 := (nrm_hi l b hN x hx).2.1
  have h2 : inS l (x.hi - 1) = true := by
    unfold inS
    rw [List.any_eq_true]
    exact ⟨x, hx, by simp; omega⟩
  have := h _ h2
  omega
/-- A set of places below n. -/
structure Set_ (n : Nat) (l : List Sp) : Prop where
  nrm : Nrm 0 l
  hi : ∀ x ∈ l, x.hi ≤ n
theorem Set_.small {n : Nat} {l : List Sp} (h : Set_ n l) (hn : n ≤ 600) : Small l := fun y hy => by
  have h1 := h.hi y hy
  have h2 := (nrm_hi _ _ h.nrm y hy).2.1
  omega
def IsCut (l : List Sp) (s : Sp) (o : List Sp) : Prop := Nrm 0 o ∧ (∀ i, inS o i = (inS l i && !(decide (s.lo ≤ i) && decide (i < s.hi)))) ∧ o.length ≤ l.length + 1
theorem wores_cut (l : List Sp) (s : Sp) (hs : s.lo ≤ s.hi) (hN : Nrm 0 l) : IsCut l s (WoRes l s) := by
  unfold WoRes
  by_cases h : s.lo = s.hi
  · rw [if_pos h]
    refine ⟨hN, fun i => ?_, by omega⟩
    have : (decide (s.lo ≤ i) && decide (i < s.hi)) = false := by
      by_cases a : s.lo ≤ i
      · have : ¬ i < s.hi := by omega
        simp [this]
      · simp [a]
    rw [this]; simp
  · rw [if_neg h]
    obtain ⟨h1, h2⟩ := without_ok s (by omega) l 0 hN
    exact ⟨h1, h2, without_len s (by omega) l 0 hN⟩
theorem IsCut.set_ {n : Nat} {l o : List Sp} {s : Sp} (h : IsCut l s o) (hl : Set_ n l) : Set_ n o :=
  ⟨h.1, hi_le h.1 (fun j hj => by rw [h.2.1] at hj; simp only [Bool.and_eq_true] at hj; exact mem_lt hl.hi j hj.1)⟩
theorem IsWith.set_ {n : Nat} {l o : List Sp} {s : Sp} (h : IsWith l s o) (hl : Set_ n l) (hs : s.hi ≤ n) : Set_ n o :=
  ⟨h.1, hi_le h.1 (fun j hj => by
    rw [h.2.1] at hj
    simp only [Bool.or_eq_true, Bool.and_eq_true, decide_eq_true_eq] at hj
    rcases hj with hj | hj
    · exact mem_lt hl.hi j hj
    · omega)⟩
set_option maxRecDepth 100000 in
set_option maxHeartbeats 1000000 in
theorem spansFault_any (n : Nat) (v : Value) (l : List Sp) (s : Sp) (w : World) (h : CRow 2 spc w v l) (hl : l.length ≤ 40) (hn : n ≤ 600) (hN : Set_ n l) (hs : s.lo ≤ s.hi ∧ s.hi ≤ n) :
    Calls Try.prog 43 #[.int .i64 (n : Int), v, spv s] w fun e w' => e = .returned (.int .i64 0) ∧ Below w.heap.size w w' := by
  have BX := Blk.new w 27 #[.int .i64 (s.lo : Int), .int .i64 (s.hi : Int)]
  have hal := (Below.refl w.heap.size w).alloc (Nat.le_refl _) (.cells #[.int .i64 (s.lo : Int), .int .i64 (s.hi : Int)] 27)
  have HM := Lib.hid (spansMay_any n v l _ (h.later hal) hl hn hN.nrm hN.hi)
  obtain ⟨A, c, rfl, hc1, hc2, hrd⟩ := h
  have g1 : ¬ (s.lo : Int) < 0 := by omega
  have g2 : ¬ (s.hi : Int) < (s.lo : Int) := by omega
  have g3 : ¬ (n : Int) < (s.hi : Int) := by omega
  unfold spv
  clear hrd
  go_enter Try.func43, Try.ntmps43
  go_wp2_with fail
  refine HM.out.mono ?_
  rintro e w1 ⟨rfl, hb1⟩
  have BX1 := BX.below hb1 (by simp)
  have y0 : w1.cell? ⟨w.heap.size, 0, none⟩ = some (.int .i64 (s.lo : Int)) := BX1.cell 0
  have y1 : w1.cell? ⟨w.heap.size, 1, none⟩ = some (.int .i64 (s.hi : Int)) := BX1.cell 1
  have HB := Lib.hid (hal.trans (hb1.mono (by simp)))
  clear hb1 hal BX BX1
  go_wp2_with fail
  go_ret
  exact ⟨rfl, HB.out⟩
theorem full_any (A : Option Addr) (n c : Nat) (w : World) (hn : n ≤ 40) :
    Calls Try.prog 44 #[.slice A n c] w fun e w' => e = .returned (.tuple #[.slice A n c, .int .i64 0]) ∧ w' = w := by
  have g1 : ¬ (40 : Int) < (n : Int) := by omega
  go_enter Try.func44, Try.ntmps44
  go_wp2_with fail
  go_ret2
  exact ⟨rfl, rfl⟩
def AddPost (l : List Sp) (s : Sp) (w : World) (e : Ending) (w' : World) : Prop :=
  ∃ v o, e = .returned (.tuple #[v, .int .i64 0]) ∧ w'.ownsRow w.heap.size 27 2 v o.length (cellsOf spc o) ∧ IsWith l s o ∧ Below w.heap.size w w'
def CutPost (l : List Sp) (s : Sp) (w : World) (e : Ending) (w' : World) : Prop :=
  ∃ v o, e = .returned (.tuple #[v, .int .i64 0]) ∧ w'.ownsRow w.heap.size 27 2 v o.length (cellsOf spc o) ∧ IsCut l s o ∧ Below w.heap.size w w'
set_option maxRecDepth 100000 in
set_option maxHeartbeats 1000000 in
theorem add_any (n : Nat) (v : Value) (l : List Sp) (s : Sp) (w : World) (base : Nat) (h : w.ownsRow base 27 2 v l.length (cellsOf spc l)) (hl : l.length ≤ 39) (hn : n ≤ 600) (hN : Set_ n l) (hs : s.lo ≤ s.hi ∧ s.hi ≤ n) :
    Calls Try.prog 17 #[.int .i64 (n : Int), v, spv s] w (AddPost l s w) := by
  have BX := Blk.new w 27 #[.int .i64 (s.lo : Int), .int .i64 (s.hi : Int)]
  have hal := (Below.refl w.heap.size w).alloc (Nat.le_refl _) (.cells #[.int .i64 (s.lo : Int), .int .i64 (s.hi : Int)] 27)
  have HF := Lib.hid (spansFault_any n v l s _ ((CRow.of_own spc_len h).later hal) (by omega) hn hN hs)
  have HW := Lib.hid (fun W (hW : Below w.heap.size w W) => with_any v l s W base (own_below h hW) (by omega) ⟨hs.1, by omega⟩ (hN.small hn) hN.nrm)
  obtain ⟨A, c, rfl, hc1, hc2⟩ := own_slice h
  unfold spv at HF HW ⊢
  clear h
  go_enter Try.func17, Try.ntmps17
  go_wp2_with fail
  refine HF.out.mono ?_
  rintro e w1 ⟨rfl, hb1⟩
  have BX1 := BX.below hb1 (by simp)
  have y0 : w1.cell? ⟨w.heap.size, 0, none⟩ = some (.int .i64 (s.lo : Int)) := BX1.cell 0
  have y1 : w1.cell? ⟨w.heap.size, 1, none⟩ = some (.int .i64 (s.hi : Int)) := BX1.cell 1
  have HB := Lib.hid (hal.trans (hb1.mono (by simp)))
  clear hb1 hal BX BX1
  go_wp2_with fail
  refine (HW.out _ HB.out).mono ?_
  rintro e w2 ⟨v2, o, rfl, ho2, hi2, hb2⟩
  have hol := hi2.2.2
  have HO2 := Lib.hid (own_mono ho2 HB.out.size)
  have HB2 := Lib.hid (bstep HB.out hb2)
  have HI2 := Lib.hid hi2
  obtain ⟨A2, c2, rfl, hA21, hA22⟩ := own_slice ho2
  have HFU := Lib.hid (full_any A2 o.length c2 w2 (by omega))
  clear ho2 hb2 hi2
  go_wp2_with fail
  refine HFU.out.mono ?_
  rintro e w3 ⟨rfl, rfl⟩
  go_wp2_with fail
  go_ret2
  exact ⟨_, o, rfl, HO2.out, HI2.out, HB2.out⟩
set_option maxRecDepth 100000 in
set_option maxHeartbeats 1000000 in
theorem cut_any (n : Nat) (v : Value) (l : List Sp) (s : Sp) (w : World) (base : Nat) (h : w.ownsRow base 27 2 v l.length (cellsOf spc l)) (hl : l.length ≤ 39) (hn : n ≤ 600) (hN : Set_ n l) (hs : s.lo ≤ s.hi ∧ s.hi ≤ n) :
    Calls Try.prog 18 #[.int .i64 (n : Int), v, spv s] w (CutPost l s w) := by
  have HIC := Lib.hid (wores_cut l s hs.1 hN.nrm)
  have BX := Blk.new w 27 #[.int .i64 (s.lo : Int), .int .i64 (s.hi : Int)]
  have hal := (Below.refl w.heap.size w).alloc (Nat.le_refl _) (.cells #[.int .i64 (s.lo : Int), .int .i64 (s.hi : Int)] 27)
  have HF := Lib.hid (spansFault_any n v l s _ ((CRow.of_own spc_len h).later hal) (by omega) hn hN hs)
  have HW := Lib.hid (fun W (hW : Below w.heap.size w W) => without_any v l s W base (own_below h hW) (by omega) ⟨by omega, by omega⟩ (hN.small hn))
  obtain ⟨A, c, rfl, hc1, hc2⟩ := own_slice h
  unfold spv at HF HW ⊢
  clear h
  go_enter Try.func18, Try.ntmps18
  go_wp2_with fail
  refine HF.out.mono ?_
  rintro e w1 ⟨rfl, hb1⟩
  have BX1 := BX.below hb1 (by simp)
  have y0 : w1.cell? ⟨w.heap.size, 0, none⟩ = some (.int .i64 (s.lo : Int)) := BX1.cell 0
  have y1 : w1.cell? ⟨w.heap.size, 1, none⟩ = some (.int .i64 (s.hi : Int)) := BX1.cell 1
  have HB := Lib.hid (hal.trans (hb1.mono (by simp)))
  clear hb1 hal BX BX1
  go_wp2_with fail
  refine (HW.out _ HB.out).mono ?_
  rintro e w2 ⟨v2, rfl, ho2, hb2⟩
  have hol := HIC.out.2.2
  generalize WoRes l s = o at *
  have HO2 := Lib.hid (own_mono ho2 HB.out.size)
  have HB2 := Lib.hid (bstep HB.out hb2)
  obtain ⟨A2, c2, rfl, hA21, hA22⟩ := own_slice ho2
  have HFU := Lib.hid (full_any A2 o.length c2 w2 (by omega))
  clear ho2 hb2
  go_wp2_with fail
  refine HFU.out.mono ?_
  rintro e w3 ⟨rfl, rfl⟩
  go_wp2_with fail
  go_ret2
  exact ⟨_, o, rfl, HO2.out, HIC.out, HB2.out⟩
end Go.Proofs.Ytddbhoilhapljaa
