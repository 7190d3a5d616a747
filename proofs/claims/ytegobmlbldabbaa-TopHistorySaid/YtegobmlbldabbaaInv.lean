/-
  The walk of edit.Invert at edits that may be made: it returns the edits that undo them, the last one first. Nothing that was there is changed.
-/
import Derived.Test.YtegobmlbldabbaaEdits
import Derived.Shelf.SlicesQ.Reverse
import Derived.Lib.OwnBridge
namespace Go.Proofs.Ytegobmlbldabbaa
open Go.RowKit Go.Shelf Go.Lib Go.Sort
set_option linter.unusedVariables false

def revRen : Go.Shelf.Ren := ⟨fun | 35 => 57 | n => n, fun | 0 => 0 | 3 => 3 | 4 => 4 | 22 => 46 | 23 => 34 | n => n, fun n => n⟩
theorem revL : SlLaysE0.n35 Try.prog revRen := {
  mixed := by kernel_rfl
  f35 := ⟨Try.f57.name, by decide, Try.func57.trans (congrArg some (by kernel_rfl))⟩
  t0 := Try.underlying0
  a0 := Try.isAgg0
  z0 := Try.sizeOf0
  v0 := Try.zeroValue0
  t3 := Try.underlying3
  a3 := Try.isAgg3
  z3 := Try.sizeOf3
  v3 := Try.zeroValue3
  t4 := Try.underlying4
  a4 := Try.isAgg4
  z4 := Try.sizeOf4
  v4 := Try.zeroValue4
  t22 := Try.underlying46
  a22 := Try.isAgg46
  z22 := Try.sizeOf46
  v22 := Try.zeroValue46 }

def enc3 (e : Ed) : List Value := [.int .i64 (e.p : Int), .int .i64 (e.c : Int), .string e.put]
instance : Inhabited Ed := ⟨⟨0, 0, ⟨#[]⟩⟩⟩
theorem edFlat (es : List Ed) (j : Nat) (hj : j < es.length * 3) : (edCells es)[j]? = some ((flatK enc3 3 es.toArray)[j]!) := by
  rw [get_flatK _ _ _ _ (by simpa using hj)]
  have hi : j / 3 < es.length := by omega
  obtain ⟨a0, a1, a2⟩ := edCells_at es (j / 3) hi
  have hd : es.toArray[j / 3]! = es[j / 3] := by rw [getElem!_pos _ _ (by simpa using hi)]; simp
  rw [hd]
  have hr : j % 3 = 0 ∨ j % 3 = 1 ∨ j % 3 = 2 := by omega
  generalize es[j / 3] = d at *
  rcases hr with h | h | h
  · rw [show j / 3 * 3 = j by omega] at a0; rw [h, a0]; rfl
  · rw [show j / 3 * 3 + 1 = j by omega] at a1; rw [h, a1]; rfl
  · rw [show j / 3 * 3 + 2 = j by omega] at a2; rw [h, a2]; rfl

def RevPost (v : Value) (es : List Ed) (base : Nat) (w : World) (e : Ending) (w' : World) : Prop :=
  e = .returned (.tuple #[]) ∧ EdRow w' v es.reverse ∧ (∀ (B : Nat) (w0 : World), B ≤ base → Below B w0 w → Below B w0 w')

set_option maxRecDepth 100000 in
theorem rev_own (es : List Ed) (v : Value) (w : World) (base : Nat) (h : w.ownsRow base 34 3 v es.length (edCells es)) :
    Calls Try.prog 57 #[v] w (RevPost v es base w) := by
  have hrow := EdRow.of_own h
  by_cases hn : es.length = 0
  · obtain rfl : es = [] := List.length_eq_zero_iff.1 hn
    obtain ⟨A, c, rfl, _⟩ := id hrow
    exact (AnyQ.slices_Reverse_empty revL A c w).mono fun e w' ⟨he, hw⟩ => ⟨he, by rw [hw]; exact hrow, fun B w0 _ hb => by rw [hw]; exact hb⟩
  · obtain ⟨g, cap, hv, hg, hlt⟩ := h.form (by omega)
    subst hv
    have hH : HoldsK enc3 3 w g 0 es.toArray := by
      intro j hj
      have hj3 : j < es.length * 3 := by simpa using hj
      rw [Nat.zero_add, h.cellAt j hj3, edFlat es j hj3]
      exact ⟨rfl, h.frozenAt j⟩
    have hlen : es.length ≤ maxLen := by obtain ⟨A, c, hv, h1, h2, _⟩ := hrow; omega
    have hc := AnyQ.slices_Reverse revL 3 Try.isAgg34 Try.sizeOf34 enc3 (fun _ => rfl) (fun x u hu => by simp [enc3] at hu; rcases hu with rfl | rfl | rfl <;> rfl) g 0 cap es.toArray w hH (by unfold maxLen at hlen; simp; omega)
    rw [List.size_toArray] at hc
    refine hc.mono fun e w' ⟨he, n, hw⟩ => ?_
    have hH' : HoldsK enc3 3 w' g 0 es.reverse.toArray := by
      rw [hw, ← List.reverse_toArray]; exact holdsK_putRowK enc3 3 _ g 0 es.toArray _ (holdsK_ahead enc3 3 w n g 0 _ hH) (by simp)
    have hbb : ∀ (B : Nat) (w0 : World), B ≤ base → Below B w0 w → Below B w0 w' := fun B w0 hB hb => by rw [hw]; exact below_putRow hb (by omega)
    refine ⟨he, ⟨some ⟨g, 0, none⟩, cap, by rw [List.length_reverse], ?_, ?_, ⟨edCells_len _, fun _ => ⟨_, rfl, ?_, fun j u hu => ?_⟩⟩⟩, hbb⟩
    · obtain ⟨A, c, hv, h1, h2, _⟩ := hrow; injection hv with _ _ hc'; subst hc'; rw [List.length_reverse]; exact h1
    · obtain ⟨A, c, hv, h1, h2, _⟩ := hrow; injection hv with _ _ hc'; subst hc'; exact h2
    · exact block_lt_of_cell (a := ⟨g, 0, none⟩) (by have := (hH' 0 (by simp; omega)).1; rwa [Nat.zero_add] at this)
    · have hj : j < es.reverse.length * 3 := by rw [← edCells_len]; exact (List.getElem?_eq_some_iff.1 hu).1
      rw [add_head, ← hu, edFlat _ j hj]
      have := (hH' j (by simpa using hj)).1
      rwa [Nat.zero_add] at this

def InvPost (s : ByteArray) (es : List Ed) (w : World) (e : Ending) (w' : World) : Prop := ∃ v, e = .returned (.tuple #[v, .int .i64 0]) ∧ EdRow w' v (bk s es).reverse ∧ Below w.heap.size w w'

set_option maxRecDepth 100000 in
set_option maxHeartbeats 1000000 in
theorem invert_any (s : ByteArray) (v : Value) (es : List Ed) (w : World) (h : EdRow w v es) (hs : s.size ≤ 600) (hl : es.length ≤ 60) (hput : ∀ e ∈ es, e.put.size ≤ 600) (ho : okr s.size es) :
    Calls Try.prog 31 #[.string s, v] w (InvPost s es w) := by
  go_enter Try.func31, Try.ntmps31
  go_wp2_with fail
  refine (run_any s v es _ h hs hl hput ho).mono ?_
  rintro e w1 ⟨v1, rfl, hown, hb1⟩
  go_wp2_with fail
  refine (rev_own (bk s es) v1 _ _ hown).mono ?_
  rintro e w2 ⟨rfl, hrow, hbel⟩
  go_wp2_with fail
  go_ret2
  exact ⟨_, rfl, hrow, hbel _ _ (Nat.le_refl _) hb1⟩

theorem bk_put (l : List Ed) : ∀ s : ByteArray, s.size ≤ 600 → okr s.size l → ∀ e ∈ bk s l, e.put.size ≤ 600 := by
  induction l with
  | nil => intro s _ _ e he; simp [bk] at he
  | cons d l ih =>
    intro s hs h e he
    have e1 := mk_size s d h.1
    simp only [bk, List.mem_cons] at he
    rcases he with rfl | he
    · simp only [unmk, ByteArray.size_extract]; omega
    · exact ih _ (by rw [e1]; exact h.2.1) (by rw [e1]; exact h.2.2) e he
end Go.Proofs.Ytegobmlbldabbaa
