/-
  The walks of slices.Clone at spans, spans.Without, spans.May.
-/
import Derived.Test.YthemlhkdgaeogaaSpan
import Derived.Test.YthemlhkdgaeogaaAppM
namespace Go.Proofs.Ythemlhkdgaeogaa
open Go.RowKit Go.Shelf
set_option linter.unusedVariables false
set_option linter.unusedSimpArgs false

def SpansPost (l : List Sp) (w : World) (e : Ending) (w' : World) : Prop := ∃ v, e = .returned v ∧ w'.ownsRow w.heap.size 73 2 v l.length (cellsOf spc l) ∧ Below w.heap.size w w'
def cloneSpanL_ren : Go.Shelf.Ren := ⟨fun | 41 => 72 | n => n, fun | 4 => 4 | 22 => 26 | 23 => 73 | n => n, fun n => n⟩
theorem cloneSpanL : SlLaysE0.n41 Try.prog cloneSpanL_ren := {
  mixed := by kernel_rfl
  f41 := ⟨Try.f72.name, by decide, Try.func72.trans (congrArg some (by kernel_rfl))⟩
  t4 := Try.underlying4
  a4 := Try.isAgg4
  z4 := Try.sizeOf4
  v4 := Try.zeroValue4
  t22 := Try.underlying26
  a22 := Try.isAgg26
  z22 := Try.sizeOf26
  v22 := Try.zeroValue26 }
theorem cloneSpan_any (v : Value) (l : List Sp) (w : World) (base : Nat) (h : w.ownsRow base 73 2 v l.length (cellsOf spc l)) (hl : l.length ≤ 1000) :
    Calls Try.prog 72 #[v] w (SpansPost l w) := by
  obtain ⟨i0, hi, hz0, hz1, hz2⟩ := info_parts span_info
  rcases h.2 with ⟨rfl, hn⟩ | ⟨g, cap, cur, rfl, _⟩
  · obtain rfl : l = [] := List.length_eq_zero_iff.1 hn
    exact (AnyE.slices_Clone_nil cloneSpanL 0 0 w).mono fun e w' h => ⟨_, h.1, World.ownsRow_nil _ _ _ _, by rw [h.2]; exact Below.refl _ _⟩
  · exact (AnyE.slices_Clone cloneSpanL i0 _ 2 16 hi hz0 hz1 hz2 rfl (by decide) Try.sizeOf73 g 0 l.length cap (cellsOf spc l) w (cellsOf_len spc_len l) (by unfold maxLen; omega) (by omega)
      (fun j u hu => by
        have hj : j < l.length * 2 := by rw [← cellsOf_len spc_len l]; exact (List.getElem?_eq_some_iff.1 hu).1
        rw [Nat.zero_add, h.cellAt j hj, hu]) (cellsOf_oneCell spc_one l)).mono fun e w' ⟨v', he, ho, _, hb⟩ => ⟨v', he, ho, hb⟩
/-- The two parts of each span. -/
def parts (s : Sp) (l : List Sp) : List Sp := l.flatMap fun x => [cutL x s, cutR x s]
theorem parts_len (s : Sp) (l : List Sp) : (parts s l).length = 2 * l.length := by
  induction l with
  | nil => rfl
  | cons x l ih => simp only [parts, List.flatMap_cons, List.length_append, List.length_cons, List.length_nil] at *; omega
theorem parts_snoc (s : Sp) (l : List Sp) (x : Sp) : parts s (l ++ [x]) = parts s l ++ [cutL x s, cutR x s] := by simp [parts]
theorem without_is (l : List Sp) (s : Sp) : without l s = (parts s l).filter okS := rfl
def WoRes (l : List Sp) (s : Sp) : List Sp := if s.lo = s.hi then l else without l s
def Small (l : List Sp) : Prop := ∀ x ∈ l, x.lo ≤ 100000 ∧ x.hi ≤ 100000
set_option maxRecDepth 100000 in
set_option maxHeartbeats 4000000 in
theorem without_any (v : Value) (l : List Sp) (s : Sp) (w : World) (base : Nat) (h0 : w.ownsRow base 73 2 v l.length (cellsOf spc l)) (hl : l.length ≤ 400) (hs : s.lo ≤ 100000 ∧ s.hi ≤ 100000) (hsm : Small l) :
    Calls Try.prog 53 #[v, spv s] w (SpansPost (WoRes l s) w) := by
  have h := CRow.of_own spc_len h0
  have HH := Lib.hid h0
  clear h0
  have HSM := Lib.hid hsm
  unfold Small at HSM
  obtain ⟨A, c, rfl, hc1, hc2, hrd⟩ := h
  have hc2' := hc2
  unfold maxLen at hc2'
  unfold spv
  have BX := Blk.new w 73 #[.int .i64 (s.lo : Int), .int .i64 (s.hi : Int)]
  have HRD := Lib.hid (hrd.alloc (Nat.le_refl _) (.cells #[.int .i64 (s.lo : Int), .int .i64 (s.hi : Int)] 73))
  have HB0 := Lib.hid ((Below.refl w.heap.size w).alloc (Nat.le_refl _) (.cells #[.int .i64 (s.lo : Int), .int .i64 (s.hi : Int)] 73))
  have HP0 := Lib.hid (parts_len s)
  clear hrd hsm
  go_enter Try.func53, Try.ntmps53
  go_wp2_with fail
  go_loopw [5, 7, 10] (fun vo vx vi wr => ∃ k : Nat, k ≤ l.length ∧ vi = .int .i64 k ∧ wr.ownsRow (w.heap.size + 1) 73 2 vo (2 * k) (cellsOf spc (parts s (l.take k))) ∧ Below (w.heap.size + 1) (w.alloc (.cells #[.int .i64 (s.lo : Int), .int .i64 (s.hi : Int)] 73)) wr) (fun _ _ vi _ => l.length - (intOf vi).toNat)
  case atStart => exact ⟨0, Nat.zero_le _, rfl, World.ownsRow_nil _ _ _ _, Below.refl _ _⟩
  case round =>
    obtain ⟨k, hk, rfl, hown, hb⟩ := hrel
    have hbs := hb.size
    simp at hbs
    by_cases hlt : k < l.length
    · have hrk := HRD.out.keep (w' := wr) (fun p hp => hb.cell (p := p) (by omega))
      obtain ⟨b, off, rfl, hbb, x0, x1⟩ := CRow.cells2 hrk hlt
      have y0 : wr.cell? ⟨w.heap.size, 0, none⟩ = some (.int .i64 (s.lo : Int)) := (BX.below hb (by omega)).cell 0
      have y1 : wr.cell? ⟨w.heap.size, 1, none⟩ = some (.int .i64 (s.hi : Int)) := (BX.below hb (by omega)).cell 1
      obtain ⟨z0, z1⟩ := HSM.out l[k] (List.getElem_mem hlt)
      have HTK : Hid (parts s (l.take (k + 1)) = parts s (l.take k) ++ [cutL l[k] s, cutR l[k] s]) := Lib.hid (by rw [List.take_succ_eq_append_getElem hlt, parts_snoc])
      obtain ⟨Ao, co, rfl, ho1, ho2⟩ := own_slice hown
      have HOW := fun o : Obj => Lib.hid (hown.alloc o)
      have HBW := fun o : Obj => Lib.hid (hb.alloc hbs o)
      have hbw : b < wr.heap.size := by omega
      have hlt9 : w.heap.size < wr.heap.size := by omega
      generalize l[k] = x at *
      clear hown hrk hb
      have HCE : Hid (cellsOf spc [cutL x s, cutR x s] = [.int .i64 (x.lo : Int), .int .i64 (min (x.hi : Int) (max (x.lo : Int) (s.lo : Int))), .int .i64 (max (x.lo : Int) (min (x.hi : Int) (s.hi : Int))), .int .i64 (x.hi : Int)]) := Lib.hid (by
        show [Value.int .i64 (x.lo : Int), .int .i64 ((min x.hi (max x.lo s.lo) : Nat) : Int), .int .i64 ((max x.lo (min x.hi s.hi) : Nat) : Int), .int .i64 (x.hi : Int)] = _
        rw [show ((min x.hi (max x.lo s.lo) : Nat) : Int) = min (x.hi : Int) (max (x.lo : Int) (s.lo : Int)) by omega, show ((max x.lo (min x.hi s.hi) : Nat) : Int) = max (x.lo : Int) (min (x.hi : Int) (s.hi : Int)) by omega])
      go_wp2_with (at_builtin; go_loud (refine wpList_appM rfl (.tmp 14) (.tmp 37) _ rfl (w.heap.size + 1) 73 _ 2 16 Try.underlying26 span_info rfl (by decide) (.slice Ao (2 * k) co) (2 * k) _ rfl (HOW (.cells #[.int .i64 (x.lo : Int), .int .i64 (x.hi : Int)] 73)).out 2 [.int .i64 (x.lo : Int), .int .i64 (min (x.hi : Int) (max (x.lo : Int) (s.lo : Int))), .int .i64 (max (x.lo : Int) (min (x.hi : Int) (s.hi : Int))), .int .i64 (x.hi : Int)] rfl _ rfl (by simp) rfl (by simp [Value.oneCell']) (by omega) (by omega) (by simp; omega) ?_; intro v8 w8 ho8 hB8 hg8; have HO8 := Lib.hid ho8; have HB8 := Lib.hid (hB8 _ (Nat.le_refl _) _ (HBW (.cells #[.int .i64 (x.lo : Int), .int .i64 (x.hi : Int)] 73)).out); clear ho8 hB8 hg8))
      go_roundw
      case rel =>
        refine ⟨k + 1, by omega, by go_num, ?_, HB8.out⟩
        rw [HTK.out, cellsOf_append, HCE.out]
        have e2 : 2 * (k + 1) = 2 * k + 2 := by omega
        rw [e2]; exact HO8.out
      case measure => simp [intOf]; omega
    · obtain rfl : k = l.length := by omega
      rw [List.take_length] at hown
      have y0 : wr.cell? ⟨w.heap.size, 0, none⟩ = some (.int .i64 (s.lo : Int)) := (BX.below hb (by omega)).cell 0
      have y1 : wr.cell? ⟨w.heap.size, 1, none⟩ = some (.int .i64 (s.hi : Int)) := (BX.below hb (by omega)).cell 1
      have HBT := Lib.hid (HB0.out.trans (hb.mono (by omega)))
      obtain ⟨Ao, co, rfl, ho1, ho2⟩ := own_slice hown
      by_cases he : s.lo = s.hi
      · have hei : ((s.lo : Int) == (s.hi : Int)) = true := by simp [he]
        have HWR : Hid (WoRes l s = l) := Lib.hid (if_pos he)
        have HCL := Lib.hid (cloneSpan_any (.slice A l.length c) l wr base (own_below HH.out HBT.out) (by omega))
        generalize WoRes l s = res at *
        clear he hown hb
        go_wp2_with fail
        refine HCL.out.mono ?_
        rintro e w2 ⟨v2, rfl, ho2', hb2⟩
        have HO2 := Lib.hid ho2'
        have HB2 := Lib.hid (bstep HBT.out hb2)
        obtain ⟨A3, c3, rfl, hA31, hA32⟩ := own_slice ho2'
        clear ho2' hb2
        go_wp2_with fail
        go_ret
        refine ⟨_, rfl, ?_, HB2.out⟩
        rw [HWR.out]
        exact own_mono HO2.out HBT.out.size
      · have hei : ((s.lo : Int) == (s.hi : Int)) = false := by rw [beq_eq_false_iff_ne]; omega
        have HWR : Hid (WoRes l s = (parts s l).filter okS) := Lib.hid (if_neg he)
        have hpl := HP0.out l
        have hown' := hown
        rw [← hpl] at hown'
        have HDL := Lib.hid (deleteBare_any (w.heap.size + 1) (.slice Ao (parts s l).length co) (parts s l) wr hown' hbs (by omega))
        rw [hpl] at HDL
        generalize WoRes l s = res at *
        clear he hown hb hown' hpl
        go_wp2_with fail
        refine HDL.out.mono ?_
        rintro e w2 ⟨v2, rfl, ho2', hb2, hs2⟩
        have HO2 := Lib.hid ho2'
        have HB2 := Lib.hid (hb2 _ ((Below.refl _ wr)))
        obtain ⟨A3, c3, rfl, hA31, hA32⟩ := own_slice ho2'
        clear ho2' hb2
        go_wp2_with fail
        go_ret
        refine ⟨_, rfl, ?_, HBT.out.trans (HB2.out.mono (by omega))⟩
        rw [HWR.out]
        exact own_mono HO2.out (by omega)
end Go.Proofs.Ythemlhkdgaeogaa
