/-
  The walk of the iterator of strings.SplitSeq at line ends.
-/
import Derived.RangeFuncBox
import Derived.RangeFuncBound
import Derived.RangeFuncKeeps
import Derived.RangeFuncWrites
import Derived.RangeFuncCalls
import Derived.Shelf.Abstract
import Derived.Shelf.AbstractIn
import Derived.WalkKit
import Derived.OwnWalkIn
import Derived.TacticsInMore
import Derived.LoopNIn
import Derived.LoopIn
import Derived.Test.YtpjpckhmjonehaaDoorPolP
namespace Go.Proofs.YtpjpckhmjonehaaDoor
open Go.RowKit Go.Shelf
set_option linter.unusedVariables false
set_option linter.unusedSimpArgs false
attribute [local go_sem] Oper.semAt_some

/-- The length of the text in a box. -/
def boxLen (W : World) (b : Nat) : Nat := match W.cell? ⟨b, 0, none⟩ with
  | some (.string t) => t.size
  | _ => 0
set_option maxRecDepth 100000 in
set_option maxHeartbeats 8000000 in
theorem split_in (n l : Nat) (J : List ByteArray → World → Prop) (W : World) (s : ByteArray) (hs : s.size ≤ 600) (b0 : Nat)
    (hJ : ∀ pre W1 (v : Value), J pre W1 → J pre (W1.setCell ⟨b0, 0, none⟩ v))
    (hY : ∀ pre x W1, x.size ≤ 600 → pre.length ≤ 600 → J pre W1 → YieldAt Fence.wide (n - 1) Tryd.prog l #[.string x] W1 fun e W' => e = .returned (.bool true) ∧ J (pre ++ [x]) W' ∧ ∀ q, b0 ≤ q → q < b0 + 3 → W'.heap[q]? = W1.heap[q]?)
    (h1 : Blk W b0 9 #[.string s]) (h2 : Blk W (b0 + 1) 9 #[.string ⟨#[10]⟩]) (h3 : Blk W (b0 + 2) 3 #[.int .i64 0]) (h0 : J [] W) :
    CallsIn Fence.wide n Tryd.prog 18 (#[.func (.yield l) #[] #[]] ++ #[.pointer (some ⟨b0 + 1, 0, none⟩), .pointer (some ⟨b0, 0, none⟩), .pointer (some ⟨b0 + 2, 0, none⟩)]) W fun e W' => (∃ v, e = .returned v) ∧ ∃ xs : List ByteArray, xs.map (fun x => x.data.toList) = spl s.data.toList ∧ J xs W' := by
  refine callsIn_of_wp Tryd.func18 rfl trivial ?_ rfl
  simp only [Tryd.ntmps18, List.size_toArray, List.length_cons, List.length_nil, Nat.reduceAdd, Nat.reduceSub, Array.replicate_succ, Array.replicate_zero, List.push_toArray, List.append_toArray, List.nil_append, List.cons_append]
  have HY := Lib.hid hY
  have HJ := Lib.hid hJ
  have H1 := Lib.hid h1
  have H2 := Lib.hid h2
  have H3 := Lib.hid h3
  have c1 : W.cell? ⟨b0 + 1, 0, none⟩ = some (.string ⟨#[10]⟩) := h2.cell 0
  clear hY hJ h1 h2 h3
  gi_wp2
  clear c1
  gi_loopw [7] (fun _ wr => ∃ (pre : List ByteArray) (t : ByteArray), pre.map (fun x => x.data.toList) ++ spl t.data.toList = spl s.data.toList ∧ t.size ≤ s.size ∧ Blk wr b0 9 #[.string t] ∧ Blk wr (b0 + 1) 9 #[.string ⟨#[10]⟩] ∧ Blk wr (b0 + 2) 3 #[.int .i64 0] ∧ J pre wr) (fun _ wr => boxLen wr b0)
  case atStart => exact ⟨[], s, rfl, Nat.le_refl _, H1.out, H2.out, H3.out, h0⟩
  case round =>
    clear h0 H1 H2 H3
    obtain ⟨pre, t, he, hts, h1, h2, h3, hj⟩ := hrel
    have HE := Lib.hid he
    have hpl : pre.length ≤ 600 := by have h9 := spl_pre he; simp at h9; omega
    have HJ0 := Lib.hid hj
    have H1 := Lib.hid h1
    have H2 := Lib.hid h2
    have H3 := Lib.hid h3
    have c0 : wr.cell? ⟨b0, 0, none⟩ = some (.string t) := h1.cell 0
    have c1 : wr.cell? ⟨b0 + 1, 0, none⟩ = some (.string ⟨#[10]⟩) := h2.cell 0
    have c2 : wr.cell? ⟨b0 + 2, 0, none⟩ = some (.int .i64 0) := h3.cell 0
    have c9 := Lib.hid c0
    clear he hj h1 h2 h3
    have hI := index_any t wr
    rcases spl_ix t.data.toList with ⟨hi, hspl⟩ | ⟨o, hi, hol, hspl⟩
    · rw [hi] at hI
      have HI := Lib.hid hI
      have HS := Lib.hid hspl
      clear hI hi hspl
      gi_wp2
      refine ⟨trivial, (fun h => by cases h), (callsIn_wide.2 HI.out).mono ?_⟩
      rintro e w1 ⟨rfl, rfl⟩
      have hYs := HY.out pre t wr (by omega) hpl HJ0.out
      obtain ⟨fn, tmps, assign, body, hy, hR⟩ := hYs
      clear HI
      gi_wp2
      refine ⟨(fun h => by cases h), hR.mono ?_⟩
      clear hR
      rintro e W2 ⟨rfl, hJ2, hb2⟩
      gi_wp2
      go_end0
      exact ⟨⟨_, rfl⟩, pre ++ [t], by rw [List.map_append, ← HE.out, HS.out]; rfl, hJ2⟩
    · have hol' : o < t.size := by simpa using hol
      rw [hi] at hI
      have HI := Lib.hid hI
      have HS := Lib.hid hspl
      clear hI hi hspl
      gi_wp2
      refine ⟨trivial, (fun h => by cases h), (callsIn_wide.2 HI.out).mono ?_⟩
      rintro e w1 ⟨rfl, rfl⟩
      clear HI
      have hYs := HY.out pre (t.extract 0 o) wr (by rw [ByteArray.size_extract]; omega) hpl HJ0.out
      obtain ⟨fn, tmps, assign, body, hy, hR⟩ := hYs
      have z1 : IntKind.i64.wrap ((o : Int) + 0) = (o : Int) := IntWalk.i64_in _ (by omega) |>.trans (by omega)
      have z2 : (o : Int) ≤ (t.size : Int) := by omega
      have z3 : decide ((o : Int) < 0) = false := decide_eq_false (by omega)
      have z4 : (0 : Int) ≤ (o : Int) := by omega
      gi_wp2
      refine ⟨(fun h => by cases h), hR.mono ?_⟩
      clear hR
      rintro e W2 ⟨rfl, hJ2, hb2⟩
      have B1 : Blk W2 b0 9 #[.string t] := (hb2 b0 (Nat.le_refl _) (by omega)).trans H1.out
      have B2 : Blk W2 (b0 + 1) 9 #[.string ⟨#[10]⟩] := (hb2 (b0 + 1) (by omega) (by omega)).trans H2.out
      have B3 : Blk W2 (b0 + 2) 3 #[.int .i64 0] := (hb2 (b0 + 2) (by omega) (by omega)).trans H3.out
      have d0 : W2.cell? ⟨b0, 0, none⟩ = some (.string t) := B1.cell 0
      have d1 : W2.cell? ⟨b0 + 1, 0, none⟩ = some (.string ⟨#[10]⟩) := B2.cell 0
      have f0 := B1.frozen 0
      have HB1 := Lib.hid B1
      have HB2 := Lib.hid B2
      have HB3 := Lib.hid B3
      clear B1 B2 B3 c0 c1 c2 H1 H2 H3
      gi_wp2
      have hx : (t.extract (o + 1) t.size).data.toList = t.data.toList.drop (o + 1) := by
        rw [ByteArray.data_extract, Array.toList_extract, List.extract]
        exact List.take_of_length_le (by rw [List.length_drop]; simp)
      have hx2 : (t.extract 0 o).data.toList = t.data.toList.take o := by
        rw [ByteArray.data_extract, Array.toList_extract, List.extract, List.drop_zero, Nat.sub_zero]
      have hsz : (t.extract (o + 1) t.size).size = t.size - (o + 1) := by rw [ByteArray.size_extract]; omega
      have K1 : Blk (W2.setCell ⟨b0, 0, none⟩ (.string (t.extract (o + 1) t.size))) b0 9 #[.string (t.extract (o + 1) t.size)] := HB1.out.set_ 0 _
      refine ⟨⟨pre ++ [t.extract 0 o], t.extract (o + 1) t.size, ?_, by omega, K1, HB2.out.far (by show b0 + 1 ≠ b0; omega) _, HB3.out.far (by show b0 + 2 ≠ b0; omega) _, HJ.out _ _ _ hJ2⟩, ?_⟩
      · rw [← HE.out, HS.out, List.map_append, hx, List.map_cons, hx2, List.append_assoc]; rfl
      · have e1 : boxLen (W2.setCell ⟨b0, 0, none⟩ (.string (t.extract (o + 1) t.size))) b0 = t.size - (o + 1) := by
          unfold boxLen
          rw [K1.cell 0]; exact hsz
        have e2 : boxLen wr b0 = t.size := by
          unfold boxLen
          rw [c9.out]
        rw [e1, e2]; omega
end Go.Proofs.YtpjpckhmjonehaaDoor
