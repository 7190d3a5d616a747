/-
  The walk of slices.SortStableFunc at at most fifteen cursors: they are sorted by what they go over.
-/
import Derived.Test.YthemlhkdgaeogaaSortK
import Derived.Test.YthemlhkdgaeogaaCurC
namespace Go.Proofs.Ythemlhkdgaeogaa
open Go.RowKit Go.Shelf Go.Sort
set_option linter.unusedVariables false
set_option linter.unusedSimpArgs false

instance : Inhabited Sp := ⟨⟨0, 0⟩⟩
def curInsL_ren : Go.Shelf.Ren := ⟨fun | 20 => 88 | n => n, fun | 0 => 0 | 3 => 3 | 4 => 4 | 22 => 43 | 24 => 46 | 25 => 101 | n => n, fun n => n⟩
theorem curInsL : SlLaysF0.n20 Try.prog curInsL_ren := {
  mixed := by kernel_rfl
  f20 := ⟨Try.f88.name, by decide, Try.func88.trans (congrArg some (by kernel_rfl))⟩
  t0 := Try.underlying0
  a0 := Try.isAgg0
  z0 := Try.sizeOf0
  v0 := Try.zeroValue0
  t3 := Try.underlying3
  a3 := Try.isAgg3
  z3 := Try.sizeOf3
  v3 := Try.zeroValue3
  t4 := Try.underlying4
  a4 := Try.isAgg4
  z4 := Try.sizeOf4
  v4 := Try.zeroValue4
  t22 := Try.underlying43
  a22 := Try.isAgg43
  z22 := Try.sizeOf43
  v22 := Try.zeroValue43
  t25 := Try.underlying101
  a25 := Try.isAgg101
  z25 := Try.sizeOf101
  v25 := Try.zeroValue101 }

theorem cur_swo : SWO (ltOf ccf) := by
  have e : ∀ x y, ltOf ccf x y = true ↔ clt x y := fun x y => by unfold ltOf; rw [decide_eq_true_eq]; exact ccf_lt x y
  have e2 : ∀ x y, ltOf ccf x y = false ↔ ¬ clt x y := fun x y => by rw [← e]; simp
  refine ⟨fun x => (e2 x x).2 (by unfold clt; omega), fun x y z h1 h2 => ?_, fun x y z h1 h2 => ?_⟩
  · rw [e] at *; unfold clt at *; omega
  · rw [e2] at *; unfold clt at *; omega
theorem sorted_list (d : Array Sp) (d' : Array Sp) (h1 : PermIn 0 d.size d d') (h2 : SortedIn (ltOf ccf) 0 d.size d') : List.Perm d'.toList d.toList ∧ Srt d'.toList := by
  obtain ⟨hs, _, hp⟩ := h1
  have e1 : d'.extract 0 d.size = d' := by rw [← hs]; exact Array.extract_size
  have e2 : d.extract 0 d.size = d := Array.extract_size
  rw [e1, e2] at hp
  refine ⟨hp, ?_⟩
  unfold Srt
  rw [List.pairwise_iff_getElem]
  intro i j hi hj hij
  have hj' : j < d'.size := by simpa using hj
  have hi' : i < d'.size := by simpa using hi
  have h3 := h2 i j (Nat.zero_le _) hij (by rw [← hs]; exact hj')
  rw [getElem!_pos d' j hj', getElem!_pos d' i hi'] at h3
  intro h4
  have h5 : ltOf ccf d'[j] d'[i] = true := by unfold ltOf; rw [decide_eq_true_eq]; exact (ccf_lt _ _).2 h4
  rw [h5] at h3; cases h3
/-- Of the insertion sort. -/
theorem curIns_any (l : List Sp) (g c base : Nat) (w : World) (h : w.ownsRow base 46 2 (.slice (some ⟨g, 0, none⟩) l.length c) l.length (cellsOf spc l)) (hl : l.length ≤ 1000) :
    Calls Try.prog 88 #[.slice (some ⟨g, 0, none⟩) l.length c, .int .i64 0, .int .i64 l.length, .func (.func 59) #[] #[]] w fun e w' =>
      e = .returned (.tuple #[]) ∧ ∃ s : List Sp, w'.ownsRow base 46 2 (.slice (some ⟨g, 0, none⟩) s.length c) s.length (cellsOf spc s) ∧ List.Perm s l ∧ Srt s ∧ Below base w w' := by
  have eg : ∀ args w, (callFunc 59 args).run Try.prog w = .ok (.enter 59 args) w := enters_of Try.func59 (by kernel_rfl) rfl
  have hlt : g < w.heap.size := by
    obtain ⟨_, _, _, cur, hg, _⟩ := own_block h
    exact (Array.getElem?_eq_some_iff.1 hg).1
  have hsz : l.toArray.size = l.length := by simp
  have hc := AnyQ.insertionSortCmpFunc curInsL 2 Try.isAgg46 Try.sizeOf46 spc spc_len (fun x v hv => spc_one x v hv) ccf 59 #[] g 0 c 0 l.length l.toArray w eg
    (fun m os dk _ x y => (Gr.curCmp x y _).mono fun e w' ⟨he, hg⟩ => ⟨he, hg⟩) (holdsK_of_own spc_len l h) hlt (Nat.zero_le _) (by rw [hsz]; exact Nat.le_refl _) (by rw [hsz]; omega)
  rw [hsz] at hc
  refine hc.mono ?_
  rintro e w' ⟨rfl, n, os, rfl⟩
  obtain ⟨hp, hsr⟩ := insertionSort_holds (lt := ltOf ccf) cur_swo l.toArray 0 l.length (Nat.zero_le _) (by rw [hsz]; exact Nat.le_refl _)
  have h3 := sorted_list l.toArray _ (by rw [hsz]; exact hp) (by rw [hsz]; exact hsr)
  have hds : (Go.Sort.insertionSort (ltOf ccf) l.toArray 0 l.length).size = l.length := by rw [hp.1, hsz]
  obtain ⟨h4, h5⟩ := own_of_sorted (m := n) (os := os) spc_len l h _ hds
  exact ⟨rfl, _, h4, h3.1, h3.2, h5⟩
theorem curIns_none (p : Option Addr) (cap : Nat) (fv : Value) (w : World) :
    Calls Try.prog 88 #[.slice p 0 cap, .int .i64 0, .int .i64 0, fv] w fun e w' => e = .returned (.tuple #[]) ∧ w' = w := AnyF.insertionSortCmpFunc_none curInsL p cap fv w
def CurSortPost (base : Nat) (v : Value) (l : List Sp) (w : World) (e : Ending) (w' : World) : Prop := e = .returned (.tuple #[]) ∧ ∃ s : List Sp, w'.ownsRow base 46 2 v s.length (cellsOf spc s) ∧ List.Perm s l ∧ Srt s ∧ Below base w w'
theorem cur_form {w : World} {base : Nat} {v : Value} {l : List Sp} (h : w.ownsRow base 46 2 v l.length (cellsOf spc l)) : ∃ A c, v = .slice A l.length c := by
  obtain ⟨A, c, hv, _⟩ := own_slice h
  exact ⟨A, c, hv⟩
theorem curIns_own (base : Nat) (v : Value) (l : List Sp) (w : World) (h : w.ownsRow base 46 2 v l.length (cellsOf spc l)) (hl : l.length ≤ 1000) :
    Calls Try.prog 88 #[v, .int .i64 0, .int .i64 l.length, .func (.func 59) #[] #[]] w (CurSortPost base v l w) := by
  rcases h.2 with ⟨rfl, hn⟩ | ⟨g, cap, cur, rfl, _⟩
  · obtain rfl : l = [] := List.length_eq_zero_iff.1 hn
    exact (curIns_none none 0 _ w).mono fun e w' h9 => ⟨h9.1, [], by rw [h9.2]; exact h, List.Perm.refl _, List.Pairwise.nil, by rw [h9.2]; exact Below.refl _ _⟩
  · refine (curIns_any l g cap base w h hl).mono ?_
    rintro e w' ⟨rfl, s, h1, h2, h3, h4⟩
    exact ⟨rfl, s, by rw [← h2.length_eq]; exact h1, h2, h3, h4⟩
set_option maxRecDepth 100000 in
set_option maxHeartbeats 2000000 in
theorem curStable_any (base : Nat) (v : Value) (l : List Sp) (w : World) (h : w.ownsRow base 46 2 v l.length (cellsOf spc l)) (hl : l.length ≤ 19) :
    Calls Try.prog 79 #[v, .int .i64 l.length, .func (.func 59) #[] #[]] w (CurSortPost base v l w) := by
  have HC := Lib.hid (curIns_own base v l w h (by omega))
  obtain ⟨A, c, rfl⟩ := cur_form h
  clear h
  have h1 : ¬ (20 : Int) ≤ (l.length : Int) := by omega
  have h2 : ¬ (20 : Int) < (l.length : Int) := by omega
  go_enter Try.func79, Try.ntmps79
  go_wp2_with fail
  refine wp_loop_rounds 1 ?_
  rw [rounds_succ]
  go_wp2_with fail
  refine HC.out.mono ?_
  rintro e w1 ⟨rfl, s, k1, k2, k3, k4⟩
  have HO := Lib.hid k1
  have HB := Lib.hid k4
  clear k1 k4
  go_wp2_with fail
  refine wp_loop_rounds 1 ?_
  rw [rounds_succ]
  go_wp2_with fail
  go_end0
  exact ⟨rfl, s, HO.out, k2, k3, HB.out⟩
theorem curSort_any (base : Nat) (v : Value) (l : List Sp) (w : World) (h : w.ownsRow base 46 2 v l.length (cellsOf spc l)) (hl : l.length ≤ 19) :
    Calls Try.prog 58 #[v, .func (.func 59) #[] #[]] w (CurSortPost base v l w) := by
  have HC := Lib.hid (curStable_any base v l w h hl)
  obtain ⟨A, c, rfl⟩ := cur_form h
  clear h
  go_enter Try.func58, Try.ntmps58
  go_wp2_with fail
  refine HC.out.mono ?_
  rintro e w1 ⟨rfl, s, h1, h2, h3, h4⟩
  have HO := Lib.hid h1
  have HB := Lib.hid h4
  clear h1 h4
  go_wp2_with fail
  go_end0
  exact ⟨rfl, s, HO.out, h2, h3, HB.out⟩
end Go.Proofs.Ythemlhkdgaeogaa
