/-
  The walk of cursors.Follow at cursors and edits that may be.
-/
import Derived.Test.YthemlhkdgaeogaaCurF
import Derived.Test.YthemlhkdgaeogaaMvP
import Derived.Test.YthemlhkdgaeogaaMix
namespace Go.Proofs.Ythemlhkdgaeogaa
open Go.RowKit Go.Shelf
set_option linter.unusedVariables false
set_option linter.unusedSimpArgs false

def mvC (p c m : Nat) (x : Sp) : Sp := ⟨mv p c m x.lo true, mv p c m x.hi true⟩
theorem map_at (f : Sp → Sp) (l : List Sp) (k : Nat) (hk : k < l.length) (h : k < ((l.take k).map f ++ l.drop k).length) : ((l.take k).map f ++ l.drop k)[k] = l[k] := by
  rw [List.getElem_append_right (by rw [List.length_map, List.length_take]; omega), List.getElem_drop]
  congr 1
  rw [List.length_map, List.length_take]; omega
theorem map_step (f : Sp → Sp) (l : List Sp) (k : Nat) (hk : k < l.length) : ((l.take k).map f ++ l.drop k).set k (f l[k]) = (l.take (k + 1)).map f ++ l.drop (k + 1) := by
  have hl : ((l.take k).map f).length = k := by rw [List.length_map, List.length_take]; omega
  rw [List.set_append_right _ _ (by omega), hl, Nat.sub_self, List.drop_eq_getElem_cons hk, List.take_succ_eq_append_getElem hk, List.map_append, List.append_assoc]
  rfl
theorem map_len (f : Sp → Sp) (l : List Sp) (k : Nat) (hk : k ≤ l.length) : ((l.take k).map f ++ l.drop k).length = l.length := by
  rw [List.length_append, List.length_map, List.length_take, List.length_drop]; omega
theorem set_two (L : List Sp) (k : Nat) (hk : k < L.length) (b : Sp) : ((cellsOf spc L).set (k * 2) (.int .i64 (b.lo : Int))).set (k * 2 + 1) (.int .i64 (b.hi : Int)) = cellsOf spc (L.set k b) := by
  have e0 := cellsOf_set (cl := spc) (sz := 2) spc_len L k hk 0 (by omega) (.int .i64 (b.lo : Int)) ⟨b.lo, L[k].hi⟩ rfl
  rw [Nat.add_zero] at e0
  rw [e0]
  rw [cellsOf_set (cl := spc) (sz := 2) spc_len (L.set k ⟨b.lo, L[k].hi⟩) k (by simpa using hk) 1 (by omega) (.int .i64 (b.hi : Int)) b (by simp [spc])]
  rw [List.set_set]
theorem mv_le (p c m i n : Nat) (hp : p + c ≤ n) (hi : i ≤ n) : mv p c m i true ≤ n + m - c := by
  unfold mv
  split
  · omega
  · split
    · omega
    · rw [if_pos rfl]; omega
def FollowPost (l : List Sp) (p c m : Nat) (w : World) (e : Ending) (w' : World) : Prop := ∃ v o, e = .returned (.tuple #[v, .int .i64 0]) ∧ w'.ownsRow w.heap.size 46 2 v o.length (cellsOf spc o) ∧ IsNorm (l.map (mvC p c m)) o ∧ Below w.heap.size w w'
set_option maxRecDepth 100000 in
set_option maxHeartbeats 4000000 in
theorem follow_any (n : Nat) (v : Value) (l : List Sp) (p c : Nat) (put : ByteArray) (w : World) (base : Nat) (h : w.ownsRow base 46 2 v l.length (cellsOf spc l)) (hl : l.length ≤ 19) (hn : n ≤ 590) (hu : Upto n l) (he : p + c ≤ n) (hput : put.size ≤ 8) :
    Calls Try.prog 23 #[.int .i64 (n : Int), v, .agg #[.int .i64 (p : Int), .int .i64 (c : Int), .string put]] w (FollowPost l p c put.size w) := by
  have BE := Blk.new w 29 #[.int .i64 (p : Int), .int .i64 (c : Int), .string put]
  have hal := (Below.refl w.heap.size w).alloc (Nat.le_refl _) (.cells #[.int .i64 (p : Int), .int .i64 (c : Int), .string put] 29)
  have HM := Lib.hid (curFault_any n v l _ ((CRow.of_own spc_len h).later hal) (by omega) (by omega) hu)
  have HF := Lib.hid (fun W => check_any n p c put W he (by omega) (by omega))
  have HC := Lib.hid (fun W (hW : Below w.heap.size w W) => cloneCur_any v l W base (own_below h hW) (by omega))
  have HU := Lib.hid hu
  obtain ⟨A, ca, rfl, hc1, hc2⟩ := own_slice h
  clear h hu
  go_enter Try.func23, Try.ntmps23
  go_wp2_with fail
  refine HM.out.mono ?_
  rintro e w1 ⟨rfl, hb1⟩
  have BE1 := BE.below hb1 (by simp)
  have y0 : w1.cell? ⟨w.heap.size, 0, none⟩ = some (.int .i64 (p : Int)) := BE1.cell 0
  have y1 : w1.cell? ⟨w.heap.size, 1, none⟩ = some (.int .i64 (c : Int)) := BE1.cell 1
  have y2 : w1.cell? ⟨w.heap.size, 2, none⟩ = some (.string put) := BE1.cell 2
  have HB := Lib.hid (hal.trans (hb1.mono (by simp)))
  clear hb1 hal BE
  go_wp2_with fail
  refine (HF.out _).mono ?_
  rintro e w2 ⟨rfl, hb2⟩
  have BE2 := BE1.below hb2 BE1.lt
  have HB2 := Lib.hid (bstep HB.out hb2)
  clear y0 y1 y2 hb2 BE1
  go_wp2_with fail
  refine (HC.out _ HB2.out).mono ?_
  rintro e w3 ⟨v3, rfl, ho3, hb3⟩
  have BE3 := BE2.below hb3 BE2.lt
  have HB3 := Lib.hid (bstep HB2.out hb3)
  have hgE : w.heap.size < w2.heap.size := BE2.lt
  have hs23 := hb3.size
  obtain ⟨A3, c3, rfl, hc31, hc32⟩ := own_slice ho3
  have HO3 := Lib.hid ho3
  have HB23 := Lib.hid hb3
  clear ho3 hb3 BE2 HC HF HM
  go_wp2_with fail
  go_loopw [11, 12, 29] (fun _ _ vi wr => ∃ k : Nat, k ≤ l.length ∧ vi = .int .i64 k ∧ wr.ownsRow w2.heap.size 46 2 (.slice A3 l.length c3) l.length (cellsOf spc ((l.take k).map (mvC p c put.size) ++ l.drop k)) ∧ Blk wr w.heap.size 29 #[.int .i64 (p : Int), .int .i64 (c : Int), .string put] ∧ Below w2.heap.size w2 wr) (fun _ _ vi _ => l.length - (intOf vi).toNat)
  case atStart => exact ⟨0, Nat.zero_le _, rfl, by simpa using HO3.out, BE3, HB23.out⟩
  case round =>
    obtain ⟨k, hk, rfl, hown, E, hb⟩ := hrel
    by_cases hlt : k < l.length
    · have hml := map_len (mvC p c put.size) l k hk
      have hkL : k < ((l.take k).map (mvC p c put.size) ++ l.drop k).length := by omega
      obtain ⟨g, cg, hvg, hg, hgl⟩ := hown.form (by omega)
      injection hvg with e1 _ e3
      subst e1
      subst e3
      have c0 := hown.cells (g := g) rfl (k * 2 + 0) _ ((cellsOf_at spc_len _ k hkL 0 (by decide)).trans rfl)
      have c1 := hown.cells (g := g) rfl (k * 2 + 1) _ ((cellsOf_at spc_len _ k hkL 1 (by decide)).trans rfl)
      rw [add_head, map_at _ l k hlt hkL] at c0 c1
      replace c0 : wr.cell? ⟨g, k * 2, none⟩ = some (.int .i64 (l[k].lo : Int)) := c0
      replace c1 : wr.cell? ⟨g, k * 2 + 1, none⟩ = some (.int .i64 (l[k].hi : Int)) := c1
      have hux := HU.out l[k] (List.getElem_mem hlt)
      have HST := Lib.hid (map_step (mvC p c put.size) l k hlt)
      have HS2 := Lib.hid (set_two _ k hkL (mvC p c put.size l[k]))
      have MV := Lib.hid (fun W => moved_any p c put l[k].lo true W (by omega) (by omega) (by omega) (by omega))
      have MW := Lib.hid (fun W => moved_any p c put l[k].hi true W (by omega) (by omega) (by omega) (by omega))
      have HZ : Hid (mvC p c put.size l[k] = ⟨mv p c put.size l[k].lo true, mv p c put.size l[k].hi true⟩) := Lib.hid rfl
      generalize mvC p c put.size l[k] = z at *
      have BX := Blk.new wr 46 #[.int .i64 (l[k].lo : Int), .int .i64 (l[k].hi : Int)]
      generalize l[k] = x at *
      have hal := (Below.refl wr.heap.size wr).alloc (Nat.le_refl _) (.cells #[.int .i64 (x.lo : Int), .int .i64 (x.hi : Int)] 46)
      have HOW := Lib.hid (own_below hown hal)
      have HEW := Lib.hid (E.below hal E.lt)
      have HBW := Lib.hid (bstep hb hal)
      generalize mv p c put.size x.lo true = za at *
      generalize mv p c put.size x.hi true = zb at *
      have hgl' : g < wr.heap.size := hgl
      clear hown E hb hal hml hkL
      go_wp2_with fail
      generalize (wr.alloc (.cells #[.int .i64 (x.lo : Int), .int .i64 (x.hi : Int)] 46)) = W at *
      refine wp_region_mix 12 0 (fun w' => Below W.heap.size W w') (by kernel_rfl) (by kernel_rfl) (fun _ _ h1 h2 => bstep h1 h2) (Below.refl _ _) ?_
      intro ι F hne hF
      have p0 : ∀ i, (F i).cell? ⟨wr.heap.size, 0, none⟩ = some (.int .i64 (x.lo : Int)) := fun i => (BX.below (hF i) BX.lt).cell 0
      have p1 : ∀ i, (F i).cell? ⟨wr.heap.size, 1, none⟩ = some (.int .i64 (x.hi : Int)) := fun i => (BX.below (hF i) BX.lt).cell 1
      have q0 : ∀ i, (F i).cell? ⟨w.heap.size, 0, none⟩ = some (.int .i64 (p : Int)) := fun i => (HEW.out.below (hF i) HEW.out.lt).cell 0
      have q1 : ∀ i, (F i).cell? ⟨w.heap.size, 1, none⟩ = some (.int .i64 (c : Int)) := fun i => (HEW.out.below (hF i) HEW.out.lt).cell 1
      have q2 : ∀ i, (F i).cell? ⟨w.heap.size, 2, none⟩ = some (.string put) := fun i => (HEW.out.below (hF i) HEW.out.lt).cell 2
      simp only [List.take_succ_cons, List.take_zero, List.drop_succ_cons, List.drop_zero]
      repeat (refine wpB_step (fun K hK => ?_); go_simp; first | (refine hK _ ?_; clear hK K) | (apply Exists.intro; refine ⟨fun _ => ?_, hK _ ?_⟩; (first | ((with_reducible refine (MV.out _).mono ?_); rintro e w1 ⟨rfl, hb⟩; exact ⟨rfl, hb⟩) | ((with_reducible refine (MW.out _).mono ?_); rintro e w1 ⟨rfl, hb⟩; exact ⟨rfl, hb⟩)); clear hK K))
      refine wpB_nil ?_
      intro w5 hw5 hI5
      have HO5 := Lib.hid (own_below HOW.out hI5)
      have HE5 := Lib.hid (HEW.out.below hI5 HEW.out.lt)
      have HB5 := Lib.hid (bstep HBW.out hI5)
      clear p0 p1 q0 q1 q2 hw5 hI5 hF
      refine wpR_nil ?_
      clear hne F
      obtain ⟨u0, d0⟩ : ∃ u, w5.cell? ⟨g, k * 2, none⟩ = some u := own_has HO5.out (by omega)
      obtain ⟨u1, d1⟩ : ∃ u, (w5.setCell ⟨g, k * 2, none⟩ (.int .i64 (za : Int))).cell? ⟨g, k * 2 + 1, none⟩ = some u := own_has (HO5.out.stored (k * 2) (.int .i64 (za : Int))).1 (by omega)
      have f0 : w5.frozen? ⟨g, k * 2, none⟩ = false := HO5.out.frozenAt (k * 2)
      have f2 : (w5.setCell ⟨g, k * 2, none⟩ (.int .i64 (za : Int))).frozen? ⟨g, k * 2 + 1, none⟩ = false := (HO5.out.stored (k * 2) (.int .i64 (za : Int))).1.frozenAt (k * 2 + 1)
      go_wp2_with fail
      have hgE2 : w.heap.size ≠ g := by omega
      refine ⟨⟨k + 1, by omega, by go_num, ?_, (HE5.out.far (p := ⟨g, k * 2, none⟩) hgE2 _).far (p := ⟨g, k * 2 + 1, none⟩) hgE2 _, (HB5.out.setCell (p := ⟨g, k * 2, none⟩) hg _).setCell (p := ⟨g, k * 2 + 1, none⟩) hg _⟩, by simp [intOf]; omega⟩
      have h9 := ((HO5.out.stored (k * 2) (.int .i64 (za : Int))).1.stored (k * 2 + 1) (.int .i64 (zb : Int))).1
      have hz := HS2.out
      rw [HZ.out] at hz
      rw [hz, ← HZ.out, HST.out] at h9
      exact h9
    · obtain rfl : k = l.length := by omega
      rw [List.take_length, List.drop_length, List.append_nil] at hown
      have hml : (l.map (mvC p c put.size)).length = l.length := List.length_map _
      have HOW : Hid (wr.ownsRow w2.heap.size 46 2 (.slice A3 l.length c3) (l.map (mvC p c put.size)).length (cellsOf spc (l.map (mvC p c put.size)))) := Lib.hid (by rw [hml]; exact hown)
      have HN := Lib.hid (norm_any _ _ wr _ HOW.out (by omega) (fun x hx => by
        obtain ⟨y, hy, rfl⟩ := List.mem_map.1 hx
        have h1 := HU.out y hy
        have h2 := mv_le p c put.size y.lo n he h1.1
        have h3 := mv_le p c put.size y.hi n he h1.2
        exact ⟨show mv p c put.size y.lo true ≤ 1000 by omega, show mv p c put.size y.hi true ≤ 1000 by omega⟩))
      have HBW := Lib.hid (HB2.out.trans (hb.mono HB2.out.size))
      clear hown hb E hml
      go_wp2_with fail
      refine HN.out.mono ?_
      rintro e w5 ⟨v5, o, rfl, ho5, hi5, hb5⟩
      have HO5 := Lib.hid (own_mono ho5 HBW.out.size)
      have HB5 := Lib.hid (bstep HBW.out hb5)
      have HI5 := Lib.hid hi5
      clear ho5 hi5 hb5
      go_wp2_with fail
      go_ret2
      exact ⟨_, o, rfl, HO5.out, HI5.out, HB5.out⟩
end Go.Proofs.Ythemlhkdgaeogaa
