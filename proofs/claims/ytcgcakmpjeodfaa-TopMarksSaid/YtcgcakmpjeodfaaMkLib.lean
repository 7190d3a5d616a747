/-
  The walk of marks.Move at marks and edits that may be: it moves each mark by each edit. Nothing that was there is changed.
-/
import Derived.Test.YtcgcakmpjeodfaaMarks
import Derived.Test.YtcgcakmpjeodfaaMoved
import Derived.Shelf.SlicesQ.IndexFunc
import Derived.Shelf.SlicesE.Clone
namespace Go.Proofs.Ytcgcakmpjeodfaa
open Go.RowKit Go.Shelf Go.Lib Go.Sort
set_option linter.unusedVariables false

def hasMarkL_ren : Go.Shelf.Ren := ⟨fun | 6 => 78 | 8 => 48 | n => n, fun | 0 => 0 | 3 => 3 | 4 => 4 | 22 => 28 | 23 => 30 | 25 => 99 | n => n, fun n => n⟩
theorem hasMarkL : SlLaysH0.n8 Try.prog hasMarkL_ren := {
  mixed := by kernel_rfl
  f6 := ⟨Try.f78.name, by decide, Try.func78.trans (congrArg some (by kernel_rfl))⟩
  f8 := ⟨Try.f48.name, by decide, Try.func48.trans (congrArg some (by kernel_rfl))⟩
  t0 := Try.underlying0
  a0 := Try.isAgg0
  z0 := Try.sizeOf0
  v0 := Try.zeroValue0
  t3 := Try.underlying3
  a3 := Try.isAgg3
  z3 := Try.sizeOf3
  v3 := Try.zeroValue3
  t4 := Try.underlying4
  a4 := Try.isAgg4
  z4 := Try.sizeOf4
  v4 := Try.zeroValue4
  t22 := Try.underlying28
  a22 := Try.isAgg28
  z22 := Try.sizeOf28
  v22 := Try.zeroValue28
  t25 := Try.underlying99
  a25 := Try.isAgg99
  z25 := Try.sizeOf99
  v25 := Try.zeroValue99 }
def cloneMarkL_ren : Go.Shelf.Ren := ⟨fun | 41 => 51 | n => n, fun | 4 => 4 | 22 => 28 | 23 => 30 | n => n, fun n => n⟩
theorem cloneMarkL : SlLaysE0.n41 Try.prog cloneMarkL_ren := {
  mixed := by kernel_rfl
  f41 := ⟨Try.f51.name, by decide, Try.func51.trans (congrArg some (by kernel_rfl))⟩
  t4 := Try.underlying4
  a4 := Try.isAgg4
  z4 := Try.sizeOf4
  v4 := Try.zeroValue4
  t22 := Try.underlying28
  a22 := Try.isAgg28
  z22 := Try.sizeOf28
  v22 := Try.zeroValue28 }

def mv1 (e : Ed) (m : Mk) : Mk := ⟨mv e.p e.c e.put.size m.at_ m.right, m.right⟩
def mvs (es : List Ed) (m : Mk) : Mk := es.foldl (fun m e => mv1 e m) m
theorem mvs_snoc (es : List Ed) (e : Ed) (m : Mk) : mvs (es ++ [e]) m = mv1 e (mvs es m) := by simp [mvs]
theorem mvs_append (a b : List Ed) (m : Mk) : mvs (a ++ b) m = mvs b (mvs a m) := by simp [mvs]
theorem mv_le (p c s i n : Nat) (r : Bool) (h : p + c ≤ n) (hi : i ≤ n) : mv p c s i r ≤ n + s - c := by
  unfold mv
  split
  · omega
  · split
    · omega
    · split <;> omega
theorem mvs_le (es : List Ed) : ∀ (n : Nat) (m : Mk), okr n es → m.at_ ≤ n → (mvs es m).at_ ≤ sized n es := by
  induction es with
  | nil => intro n m _ h; exact h
  | cons e es ih =>
    intro n m ho h
    exact ih _ (mv1 e m) ho.2.2 (mv_le _ _ _ _ _ _ ho.1 h)
theorem mvs_right (es : List Ed) : ∀ (m : Mk), (mvs es m).right = m.right := by
  induction es with
  | nil => intro m; rfl
  | cons e es ih => intro m; exact ih (mv1 e m)

set_option maxRecDepth 100000 in
set_option maxHeartbeats 1000000 in
theorem moveClosure_any (m : Mk) (n g : Nat) (w : World) (hc : w.cell? ⟨g, 0, none⟩ = some (.int .i64 (n : Int))) :
    Calls Try.prog 49 #[.agg #[.int .i64 (m.at_ : Int), .bool m.right], .pointer (some ⟨g, 0, none⟩)] w fun e w' => e = .returned (.bool (decide (n < m.at_))) ∧ Below w.heap.size w w' := by
  have hg := block_lt_of_cell (a := ⟨g, 0, none⟩) hc
  by_cases h : n < m.at_
  · have hd : decide ((n : Int) < (m.at_ : Int)) = true := by simp; omega
    rw [decide_eq_true h]
    generalize m.at_ = i at *
    generalize m.right = r at *
    go_enter Try.func49, Try.ntmps49
    go_wp2
    go_ret
    exact ⟨rfl, (Below.refl _ _).alloc (Nat.le_refl _) _⟩
  · have hd : decide ((n : Int) < (m.at_ : Int)) = false := by simp; omega
    rw [decide_eq_false h]
    generalize m.at_ = i at *
    generalize m.right = r at *
    go_enter Try.func49, Try.ntmps49
    go_wp2
    go_ret
    exact ⟨rfl, (Below.refl _ _).alloc (Nat.le_refl _) _⟩

instance : Inhabited Mk := ⟨⟨0, false⟩⟩
set_option maxRecDepth 100000 in
set_option maxHeartbeats 1000000 in
theorem idxMark_nil (A : Option Addr) (c : Nat) (f : Value) (w : World) :
    Calls Try.prog 78 #[.slice A 0 c, f] w fun e w' => e = .returned (.int .i64 (-1)) ∧ w = w' := by
  go_enter Try.func78, Try.ntmps78
  go_wp2
  refine wp_loop_rounds 1 ?_
  rw [rounds_succ]
  go_wp2
  go_ret
  exact ⟨rfl, rfl⟩
set_option maxRecDepth 100000 in
set_option maxHeartbeats 1000000 in
theorem hasMark_nil (A : Option Addr) (c : Nat) (f : Value) (w : World) :
    Calls Try.prog 48 #[.slice A 0 c, f] w fun e w' => e = .returned (.bool false) ∧ w = w' := by
  go_enter Try.func48, Try.ntmps48
  go_wp2_with fail
  refine (idxMark_nil A c f _).mono ?_
  rintro e w' ⟨rfl, rfl⟩
  go_wp2
  go_ret
  exact ⟨rfl, rfl⟩
/-- No mark is beyond the end: ContainsFunc says no. -/
theorem hasMark_any (v : Value) (ms : List Mk) (n g : Nat) (w : World) (base : Nat) (h : w.ownsRow base 30 2 v ms.length (cellsOf mkc ms)) (hm : ∀ m ∈ ms, m.at_ ≤ n) (hc : w.cell? ⟨g, 0, none⟩ = some (.int .i64 (n : Int))) :
    Calls Try.prog 48 #[v, .func (.func 49) #[] #[.pointer (some ⟨g, 0, none⟩)]] w fun e w' => e = .returned (.bool false) ∧ Below w.heap.size w w' := by
  have hg := block_lt_of_cell (a := ⟨g, 0, none⟩) hc
  by_cases hn : ms.length = 0
  · obtain rfl : ms = [] := List.length_eq_zero_iff.1 hn
    obtain ⟨A, c, rfl, _⟩ := CRow.of_own mkc_len h
    exact (hasMark_nil A c _ w).mono fun e w' h => ⟨h.1, by rw [← h.2]; exact Below.refl _ _⟩
  · obtain ⟨b, cap, rfl, hb, hlt⟩ := h.form (by omega)
    have hlen : ms.length ≤ maxLen := by obtain ⟨A, c, hv, h1, h2, _⟩ := CRow.of_own mkc_len h; omega
    have hcl := AnyQ.slices_ContainsFunc hasMarkL 2 Try.isAgg30 Try.sizeOf30 mkc mkc_len (fun m => decide (n < m.at_)) 49 #[.pointer (some ⟨g, 0, none⟩)]
      (fun args w => by kernel_rfl) b 0 ms.length cap ms w
      (fun W x hb' => (moveClosure_any x n g W ((hb'.cell (p := ⟨g, 0, none⟩) hg).trans hc)).mono fun e w' h => ⟨h.1, bstep hb' h.2⟩) (Nat.le_refl _) (by unfold maxLen at hlen; omega) hlt
      (fun j hj i v hv => by
        have hi : i < 2 := by have := (List.getElem?_eq_some_iff.1 hv).1; rwa [mkc_len] at this
        rw [Nat.zero_add, h.cellAt (j * 2 + i) (by omega), cellsOf_at mkc_len ms j hj i hi, ← hv, getElem!_pos ms j hj])
    have hany : (ms.take ms.length).any (fun m => decide (n < m.at_)) = false := by
      rw [List.take_length, List.any_eq_false]
      intro m h; have := hm m h; simp; omega
    rw [hany] at hcl
    exact hcl
def ClonePost (ms : List Mk) (w : World) (e : Ending) (w' : World) : Prop := ∃ v, e = .returned v ∧ w'.ownsRow w.heap.size 30 2 v ms.length (cellsOf mkc ms) ∧ Below w.heap.size w w'
theorem cloneMark_any (v : Value) (ms : List Mk) (w : World) (base : Nat) (h : w.ownsRow base 30 2 v ms.length (cellsOf mkc ms)) (hl : ms.length ≤ 1000000) :
    Calls Try.prog 51 #[v] w (ClonePost ms w) := by
  obtain ⟨i0, hi, hz0, hz1, hz2⟩ := info_parts mark_info
  rcases h.2 with ⟨rfl, hn⟩ | ⟨g, cap, cur, rfl, _⟩
  · obtain rfl : ms = [] := List.length_eq_zero_iff.1 hn
    exact (AnyE.slices_Clone_nil cloneMarkL 0 0 w).mono fun e w' h => ⟨_, h.1, World.ownsRow_nil _ _ _ _, by rw [h.2]; exact Below.refl _ _⟩
  · exact (AnyE.slices_Clone cloneMarkL i0 _ 2 16 hi hz0 hz1 hz2 rfl (by decide) Try.sizeOf30 g 0 ms.length cap (cellsOf mkc ms) w (cellsOf_len mkc_len ms) (by unfold maxLen; omega) (by omega)
      (fun j u hu => by
        have hj : j < ms.length * 2 := by rw [← cellsOf_len mkc_len ms]; exact (List.getElem?_eq_some_iff.1 hu).1
        rw [Nat.zero_add, h.cellAt j hj, hu]) (cellsOf_oneCell mkc_one ms)).mono fun e w' ⟨v', he, ho, _, hb⟩ => ⟨v', he, ho, hb⟩
end Go.Proofs.Ytcgcakmpjeodfaa
