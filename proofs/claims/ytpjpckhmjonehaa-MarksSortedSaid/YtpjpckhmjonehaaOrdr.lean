/-
  The walk of marks.Order: the numbers of the marks, by place and side.
-/
import Derived.Test.YtpjpckhmjonehaaStab
import Derived.Test.YtpjpckhmjonehaaOrdK
import Derived.Test.YtpjpckhmjonehaaMarks
import Derived.Test.YtpjpckhmjonehaaCopy
import Derived.Laws.EntriesVeiled
namespace Go.Proofs.Ytpjpckhmjonehaa
open Go.RowKit Go.Shelf Go.Sort
set_option linter.unusedVariables false
set_option linter.unusedSimpArgs false

theorem ordi_info : (Try.prog.info? 3).map (fun i => (i.zero, i.size, i.bytes)) = some (some (.int .i64 0), 1, 8) := by kernel_rfl
def OrderPost (ms : List Mk) (w : World) (e : Ending) (w' : World) : Prop :=
  ∃ (v : Value) (l : List (Fin ms.length)), e = .returned (.tuple #[v, .int .i64 0]) ∧ List.Perm l (List.finRange ms.length) ∧ (l.Pairwise fun a b => ms[a].at_ ≤ ms[b].at_) ∧
    w'.ownsRow w.heap.size 3 1 v ms.length (l.map encS) ∧ Below w.heap.size w w'
set_option maxHeartbeats 8000000 in
set_option maxRecDepth 1000000 in
theorem order_any (v : Value) (ms : List Mk) (w : World) (hr : CRow 2 mkc w v ms) (h0 : 0 < ms.length) (hn : ms.length ≤ 39) :
    Calls Try.prog 6 #[v] w (OrderPost ms w) := by
  obtain ⟨A, c, rfl, hc1, hc2, hrd⟩ := hr
  obtain ⟨mb, mo, rfl, hmb, _⟩ := hrd.plain h0 (by omega)
  have HRD := Lib.hid hrd
  clear hrd
  have hmm := @run_makeMap Try.prog
  have hsp := side_put (w.alloc (.cells #[.slice (some ⟨mb, mo, none⟩) ms.length c] 24))
  rw [World.size_alloc] at hsp
  have k1 : decide ((60 : Int) < (ms.length : Int)) = false := decide_eq_false (by omega)
  have k2 : decide (60 < ms.length) = false := decide_eq_false (by omega)
  go_enter Try.func6, Try.ntmps6
  go_wp2_with fail
  clear hsp hmm
  have B1 := Blk.new w 24 #[.slice (some ⟨mb, mo, none⟩) ms.length c]
  have hb0 : Below w.heap.size w (w.alloc (.cells #[.slice (some ⟨mb, mo, none⟩) ms.length c] 24)) := (Below.refl _ _).alloc (Nat.le_refl _) _
  have hb1 : Below (w.heap.size + 1) (w.alloc (.cells #[.slice (some ⟨mb, mo, none⟩) ms.length c] 24)) (((w.alloc (.cells #[.slice (some ⟨mb, mo, none⟩) ms.length c] 24)).alloc sideObj).alloc (.cells #[.map (some (w.heap.size + 1))] 35)) := ((Below.refl _ _).alloc (by simp) _).alloc (by simp) _
  have hsd : (((w.alloc (.cells #[.slice (some ⟨mb, mo, none⟩) ms.length c] 24)).alloc sideObj).alloc (.cells #[.map (some (w.heap.size + 1))] 35)).heap[w.heap.size + 1]? = some sideObj := by
    have h1 := heap_alloc_new (w.alloc (.cells #[.slice (some ⟨mb, mo, none⟩) ms.length c] 24)) sideObj
    rw [World.size_alloc] at h1
    exact (Below.heap_alloc _ _ (w.heap.size + 1) (by simp)).trans h1
  have B3 := Blk.new ((w.alloc (.cells #[.slice (some ⟨mb, mo, none⟩) ms.length c] 24)).alloc sideObj) 35 #[.map (some (w.heap.size + 1))]
  have B2 := B1.below hb1 (Nat.lt_succ_self _)
  have hsz : (((w.alloc (.cells #[.slice (some ⟨mb, mo, none⟩) ms.length c] 24)).alloc sideObj).alloc (.cells #[.map (some (w.heap.size + 1))] 35)).heap.size = w.heap.size + 1 + 1 + 1 := by simp
  simp only [World.size_alloc] at B3
  have HBL := Lib.hid (hb0.trans (hb1.mono (Nat.le_succ _)))
  generalize (((w.alloc (.cells #[.slice (some ⟨mb, mo, none⟩) ms.length c] 24)).alloc sideObj).alloc (.cells #[.map (some (w.heap.size + 1))] 35)) = W0 at *
  have HB2 := Lib.hid B2
  have HB3 := Lib.hid B3
  have HSD := Lib.hid hsd
  have HSZ := Lib.hid hsz
  clear B1 B2 B3 hb0 hb1 hsd hsz k1 k2
  have ht : w.heap.size ≤ 1000000000000000 ∨ True := .inr trivial
  clear ht
  go_loopw [5, 14] (fun vo vi W => ∃ i : Nat, i ≤ ms.length ∧ vi = .int .i64 (i : Int) ∧ W.ownsRow W0.heap.size 3 1 vo i ((List.range i).map fun j : Nat => Value.int .i64 (j : Int)) ∧ Below W0.heap.size W0 W) (fun _ vi _ => ms.length - (intOf vi).toNat)
  case atStart => exact ⟨0, Nat.zero_le _, rfl, World.ownsRow_nil _ _ _ _, Below.refl _ _⟩
  case round =>
    obtain ⟨i, hi, rfl, ho, hb⟩ := hrel
    have HO := Lib.hid ho
    have HB := Lib.hid hb
    clear ho hb
    rcases Nat.lt_or_ge i ms.length with hlt | hge
    · have j1 : (i : Int) < (ms.length : Int) := by omega
      obtain ⟨Ao, co, rfl, ho1, ho2⟩ := own_slice HO.out
      go_wp2_with (at_builtin; go_loud (refine wpList_app1 rfl (.tmp 17) (.tmp 19) _ rfl W0.heap.size 3 _ 8 Try.underlying22 ordi_info rfl _ _ _ rfl HO.out (.int .i64 (i : Int)) rfl rfl rfl (by omega) (by omega) HB.out.size ?_; intro v8 w8 ho8 hB8 hg8; have HO8 := Lib.hid ho8; have HB8 := Lib.hid (hB8 _ (Nat.le_refl _) _ HB.out); clear ho8 hB8 hg8))
      exact ⟨⟨i + 1, hlt, by go_num, by rw [List.range_succ, List.map_append]; exact HO8.out, HB8.out⟩, by simp [intOf]; omega⟩
    · have j1 : decide ((i : Int) < (ms.length : Int)) = false := decide_eq_false (by omega)
      obtain rfl : i = ms.length := by omega
      haveI : Inhabited (Fin ms.length) := ⟨⟨0, h0⟩⟩
      have hfr : ((List.range ms.length).map fun j : Nat => Value.int .i64 (j : Int)) = (List.finRange ms.length).map encS := by
        refine List.ext_getElem (by simp) fun q x1 x2 => ?_
        simp [encS]
      have ho := HO.out
      rw [hfr] at ho
      rcases ho.2 with ⟨_, hz⟩ | ⟨g, cap, cur, ev, hgb, _⟩
      · omega
      · subst ev
        have HO2 := Lib.hid ho
        have eg : ∀ args w, (callFunc 9 args).run Try.prog w = .ok (.enter 9 args) w := enters_of Try.func9 (by kernel_rfl) rfl
        have hs0 := HSZ.out
        have HST := Lib.hid (sortStable_any (Gr.mcf (fun i : Fin ms.length => ms[i].at_) (fun i : Fin ms.length => if ms[i].right then 1 else 0)) (Gr.mcf_swo _ _) 9 #[.pointer (some ⟨w.heap.size, 0, none⟩), .pointer (some ⟨w.heap.size + 1 + 1, 0, none⟩)] g cap W0.heap.size wr eg ho hn (fun x y W hW => by
          have hbW : ∀ q, q < W0.heap.size → W.heap[q]? = W0.heap[q]? := fun q hq => (hW.block q (Nat.lt_of_lt_of_le hq HB.out.size) (fun e => by have := Option.some.inj e; omega)).trans (HB.out.block q hq)
          have hcl : ∀ q o v, q < W0.heap.size → W0.cell? ⟨q, o, none⟩ = some v → W.cell? ⟨q, o, none⟩ = some v := fun q o v hq h => by
            simp only [World.cell?] at h ⊢
            rw [hbW q hq]; exact h
          refine Gr.ordCmp (fun i : Fin ms.length => ms[i].at_) (fun i : Fin ms.length => ms[i].right) x y W w.heap.size (w.heap.size + 1 + 1) mb mo (w.heap.size + 1) c (hcl _ _ _ (by omega) (HB2.out.cell 0)) (hcl _ _ _ (by omega) (HB3.out.cell 0)) (fun i => ?_) ((hbW _ (by omega)).trans HSD.out)
          obtain ⟨b1, o1, ev, hb1, y0, y1⟩ := CRow.at2 (x := fun m : Mk => Value.int .i64 (m.at_ : Int)) (y := fun m : Mk => Value.bool m.right) HRD.out i.isLt
          injection ev with ev
          injection ev with ev1 ev2 _
          subst ev1; subst ev2
          have hlt2 := HBL.out.size
          exact ⟨hcl _ _ _ (by omega) ((HBL.out.cell (p := ⟨mb, mo + i.val * 2, none⟩) hb1).trans y0), hcl _ _ _ (by omega) ((HBL.out.cell (p := ⟨mb, mo + i.val * 2 + 1, none⟩) hb1).trans y1)⟩))
        clear ho hfr HO eg
        go_wp2_with fail
        refine HST.out.mono ?_
        rintro e w5 ⟨rfl, l, hl1, hl2, hl3, hl4⟩
        have HF := Lib.hid (And.intro hl1 (And.intro hl2 (And.intro hl3 hl4)))
        clear hl1 hl2 hl3 hl4 HST
        go_wp2_with fail
        go_ret2
        refine ⟨_, l, rfl, HF.out.1, HF.out.2.1.imp fun {a b} hab => ?_, own_mono HF.out.2.2.1 (by omega), (HBL.out.trans (HB.out.mono (by omega))).trans (HF.out.2.2.2.mono (by omega))⟩
        have h9 : ¬ (ms[b].at_ < ms[a].at_ ∨ ms[b].at_ = ms[a].at_ ∧ (if ms[b].right then 1 else 0) < (if ms[a].right then 1 else 0)) := fun h => by
          have := (Gr.mcf_lt (fun i : Fin ms.length => ms[i].at_) (fun i : Fin ms.length => if ms[i].right then 1 else 0) b a).2 h
          rw [this] at hab; cases hab
        omega
end Go.Proofs.Ytpjpckhmjonehaa
