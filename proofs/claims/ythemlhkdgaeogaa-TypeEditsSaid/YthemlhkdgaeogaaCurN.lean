/-
  The walk of cursors.norm.
-/
import Derived.Test.YthemlhkdgaeogaaCurS
import Derived.Test.YthemlhkdgaeogaaCurB
import Derived.Test.YthemlhkdgaeogaaSpanW
import Derived.Test.YthemlhkdgaeogaaCopyK
namespace Go.Proofs.Ythemlhkdgaeogaa
open Go.RowKit Go.Shelf
set_option linter.unusedVariables false
set_option linter.unusedSimpArgs false

theorem cur_info : (Try.prog.info? 46).map (fun i => (i.zero, i.size, i.bytes)) = some (some (.agg #[.int .i64 0, .int .i64 0]), 2, 16) := by kernel_rfl
def CursPost (l : List Sp) (w : World) (e : Ending) (w' : World) : Prop := ∃ v, e = .returned v ∧ w'.ownsRow w.heap.size 46 2 v l.length (cellsOf spc l) ∧ Below w.heap.size w w'
def cloneCurL_ren : Go.Shelf.Ren := ⟨fun | 41 => 43 | n => n, fun | 4 => 4 | 22 => 43 | 23 => 46 | n => n, fun n => n⟩
theorem cloneCurL : SlLaysE0.n41 Try.prog cloneCurL_ren := {
  mixed := by kernel_rfl
  f41 := ⟨Try.f43.name, by decide, Try.func43.trans (congrArg some (by kernel_rfl))⟩
  t4 := Try.underlying4
  a4 := Try.isAgg4
  z4 := Try.sizeOf4
  v4 := Try.zeroValue4
  t22 := Try.underlying43
  a22 := Try.isAgg43
  z22 := Try.sizeOf43
  v22 := Try.zeroValue43 }

theorem cloneCur_any (v : Value) (l : List Sp) (w : World) (base : Nat) (h : w.ownsRow base 46 2 v l.length (cellsOf spc l)) (hl : l.length ≤ 1000) :
    Calls Try.prog 43 #[v] w (CursPost l w) := by
  obtain ⟨i0, hi, hz0, hz1, hz2⟩ := info_parts cur_info
  rcases h.2 with ⟨rfl, hn⟩ | ⟨g, cap, cur, rfl, _⟩
  · obtain rfl : l = [] := List.length_eq_zero_iff.1 hn
    exact (AnyE.slices_Clone_nil cloneCurL 0 0 w).mono fun e w' h => ⟨_, h.1, World.ownsRow_nil _ _ _ _, by rw [h.2]; exact Below.refl _ _⟩
  · exact (AnyE.slices_Clone cloneCurL i0 _ 2 16 hi hz0 hz1 hz2 rfl (by decide) Try.sizeOf46 g 0 l.length cap (cellsOf spc l) w (cellsOf_len spc_len l) (by unfold maxLen; omega) (by omega)
      (fun j u hu => by
        have hj : j < l.length * 2 := by rw [← cellsOf_len spc_len l]; exact (List.getElem?_eq_some_iff.1 hu).1
        rw [Nat.zero_add, h.cellAt j hj, hu]) (cellsOf_oneCell spc_one l)).mono fun e w' ⟨v', he, ho, _, hb⟩ => ⟨v', he, ho, hb⟩
def NormPost (l : List Sp) (w : World) (e : Ending) (w' : World) : Prop := ∃ v o, e = .returned v ∧ w'.ownsRow w.heap.size 46 2 v o.length (cellsOf spc o) ∧ IsNorm l o ∧ Below w.heap.size w w'
theorem set_last (o : List Sp) (a b : Sp) : ((cellsOf spc (o ++ [a])).set (o.length * 2) (.int .i64 (b.lo : Int))).set (o.length * 2 + 1) (.int .i64 (b.hi : Int)) = cellsOf spc (o ++ [b]) := by
  rw [cellsOf_snoc, cellsOf_snoc]
  have hl := cellsOf_len spc_len o
  rw [List.set_append_right _ _ (by omega), List.set_append_right _ _ (by omega), hl]
  simp [spc]
theorem own_has {w : World} {base g n c i : Nat} {e : TypeId} {size : Nat} {xs : List Value} (h : w.ownsRow base e size (.slice (some ⟨g, 0, none⟩) n c) n xs) (hi : i < n * size) : ∃ u, w.cell? ⟨g, i, none⟩ = some u := by
  have h2 := h.cellAt i hi
  rw [List.getElem?_eq_getElem (by rw [h.1]; exact hi)] at h2
  exact ⟨_, h2⟩
set_option maxRecDepth 100000 in
set_option maxHeartbeats 8000000 in
theorem norm_any (v : Value) (l : List Sp) (w : World) (base : Nat) (h : w.ownsRow base 46 2 v l.length (cellsOf spc l)) (hl : l.length ≤ 19) (hn : Upto 1000 l) :
    Calls Try.prog 40 #[v] w (NormPost l w) := by
  have HC := Lib.hid (cloneCur_any v l w base h (by omega))
  obtain ⟨A0, c0, rfl⟩ := cur_form h
  clear h
  go_enter Try.func40, Try.ntmps40
  go_wp2_with fail
  refine HC.out.mono ?_
  rintro e w1 ⟨v1, rfl, ho1, hb1⟩
  have HS := Lib.hid (curSort_any w.heap.size v1 l w1 ho1 hl)
  obtain ⟨A1, c1, rfl⟩ := cur_form ho1
  have HB1 := Lib.hid hb1
  clear ho1 hb1 HC
  go_wp2_with fail
  refine HS.out.mono ?_
  rintro e w2 ⟨rfl, s, ho2, hp, hsr, hb2⟩
  have HRD := Lib.hid (CRow.of_own spc_len ho2)
  have HSU : Hid (Upto 1000 s) := Lib.hid (fun x hx => hn x (hp.mem_iff.1 hx))
  have hsl := hp.length_eq
  have HP := Lib.hid hp
  have HSR := Lib.hid hsr
  have HB2 := Lib.hid (HB1.out.trans hb2)
  have HJL := Lib.hid (fun k => nfold_len (s.take k) [])
  have HSL := Lib.hid hsl
  rw [← hsl] at hl ⊢
  clear hsl hp hsr ho2 hb2 HS HB1 hn
  go_wp2_with fail
  go_loopw [4, 6, 7, 8, 9, 16] (fun vo _ _ _ _ vi wr => ∃ (k : Nat) (o : List Sp), k ≤ s.length ∧ vi = .int .i64 k ∧ Hid (o = (s.take k).foldl nstep []) ∧ wr.ownsRow w2.heap.size 46 2 vo o.length (cellsOf spc o) ∧ Below w2.heap.size w2 wr) (fun _ _ _ _ _ vi _ => s.length - (intOf vi).toNat)
  case atStart => exact ⟨0, [], Nat.zero_le _, rfl, Lib.hid rfl, World.ownsRow_nil _ _ _ _, Below.refl _ _⟩
  case round =>
    obtain ⟨k, o, hk, rfl, HO, hown, hb⟩ := hrel
    have hbs := hb.size
    have hol : o.length ≤ s.length := by
      have := (HJL.out k).1
      rw [← HO.out, List.length_take] at this
      simp at this; omega
    by_cases hlt : k < s.length
    · obtain ⟨Aq, cq, hvq, _, _, hrd⟩ := HRD.out
      injection hvq with e1 _ e3
      subst e1
      subst e3
      obtain ⟨b, off, rfl, hbb, x0, x1⟩ := CRow.cells2 (hrd.below hb) hlt
      clear hrd
      have hxs := HSU.out _ (List.getElem_mem hlt)
      have HST : Hid ((s.take (k + 1)).foldl nstep [] = nstep o s[k]) := Lib.hid (by rw [nfold_snoc s k hlt, ← HO.out])
      have BX := Blk.new wr 46 #[.int .i64 (s[k].lo : Int), .int .i64 (s[k].hi : Int)]
      generalize s[k] = c at *
      have HOW := Lib.hid (hown.alloc (.cells #[.int .i64 (c.lo : Int), .int .i64 (c.hi : Int)] 46))
      have HBW := Lib.hid (hb.alloc hbs (.cells #[.int .i64 (c.lo : Int), .int .i64 (c.hi : Int)] 46))
      rcases List.eq_nil_or_concat o with rfl | ⟨o', a, rfl⟩
      · obtain ⟨Ao, co, rfl, ho1, ho2⟩ := own_slice hown
        simp only [List.length_nil] at hown HOW hol ⊢
        clear hown hb
        go_wp2_with (at_builtin; go_loud (refine wpList_appN rfl (.tmp 63) (.tmp 65) _ rfl w2.heap.size 46 _ 2 16 Try.underlying43 cur_info rfl (by decide) (.slice Ao 0 co) 0 _ rfl HOW.out (spc c) rfl _ rfl (by simp) rfl (spc_one c) (by omega) (by omega) HBW.out.size ?_; intro v8 w8 ho8 hB8 hg8; have HO8 := Lib.hid ho8; have HB8 := Lib.hid (hB8 _ (Nat.le_refl _) _ HBW.out); clear ho8 hB8 hg8))
        refine ⟨⟨k + 1, [c], by omega, by go_num, Lib.hid (by rw [HST.out]; rfl), ?_, HB8.out⟩, by simp [intOf]; omega⟩
        have h9 := HO8.out
        rw [Nat.zero_add] at h9
        exact h9
      · rw [List.concat_eq_append] at hown HOW HST HO hol
        obtain ⟨m, hm⟩ : ∃ m, o'.length = m := ⟨_, rfl⟩
        have hlen : (o' ++ [a]).length = m + 1 := by simp [hm]
        rw [hlen] at hown HOW hol
        obtain ⟨g, co, hv, hg, hgl2⟩ := hown.form (by omega)
        subst hv
        have hat : (o' ++ [a])[m]? = some a := by rw [List.getElem?_append_right (by omega), hm, Nat.sub_self]; rfl
        have hml : m < (o' ++ [a]).length := by omega
        have hget : (o' ++ [a])[m] = a := by rw [List.getElem?_eq_getElem hml] at hat; injection hat
        have c0' := HOW.out.cells (g := g) rfl (m * 2 + 0) _ ((cellsOf_at spc_len _ m hml 0 (by decide)).trans rfl)
        have c1' := HOW.out.cells (g := g) rfl (m * 2 + 1) _ ((cellsOf_at spc_len _ m hml 1 (by decide)).trans rfl)
        rw [add_head, hget] at c0' c1'
        replace c0' : (wr.alloc (.cells #[.int .i64 (c.lo : Int), .int .i64 (c.hi : Int)] 46)).cell? ⟨g, m * 2, none⟩ = some (.int .i64 (a.lo : Int)) := c0'
        replace c1' : (wr.alloc (.cells #[.int .i64 (c.lo : Int), .int .i64 (c.hi : Int)] 46)).cell? ⟨g, m * 2 + 1, none⟩ = some (.int .i64 (a.hi : Int)) := c1'
        have hm0 : (0 : Int) ≤ (m : Int) := by omega
        have hm1 : (m : Int) < (m : Int) + 1 := by omega
        have BA := Blk.new (wr.alloc (.cells #[.int .i64 (c.lo : Int), .int .i64 (c.hi : Int)] 46)) 46 #[.int .i64 (a.lo : Int), .int .i64 (a.hi : Int)]
        have BX2 := BX.below ((Below.refl _ _).alloc (Nat.le_refl _) (.cells #[.int .i64 (a.lo : Int), .int .i64 (a.hi : Int)] 46)) (by simp)
        replace HOW := Lib.hid (HOW.out.alloc (.cells #[.int .i64 (a.lo : Int), .int .i64 (a.hi : Int)] 46))
        replace HBW := Lib.hid (HBW.out.alloc HBW.out.size (.cells #[.int .i64 (a.lo : Int), .int .i64 (a.hi : Int)] 46))
        have hgc : g < wr.heap.size := hgl2
        have hw2 : w2.heap.size ≤ g := hg
        have LA := Lib.hid (fun W => Gr.clo_any a W)
        have HA := Lib.hid (fun W => Gr.chi_any a W)
        have LC := Lib.hid (fun W => Gr.clo_any c W)
        have HC := Lib.hid (fun W => Gr.chi_any c W)
        have CB := Lib.hid (fun W => curBoth_any a c W)
        have HNS : Hid (nstep (o' ++ [a]) c = if hits a c then o' ++ [both a c] else o' ++ [a, c]) := Lib.hid (nstep_snoc o' a c)
        have hh : hits a c = (decide (clo c < chi a) || (decide (clo c = chi a) && (decide (clo a = chi a) || decide (clo c = chi c)))) := rfl
        have HH := Lib.hid hh
        have HSL2 := Lib.hid (fun b => (by have h9 := set_last o' a b; rw [hm] at h9; exact h9 : ((cellsOf spc (o' ++ [a])).set (m * 2) (.int .i64 (b.lo : Int))).set (m * 2 + 1) (.int .i64 (b.hi : Int)) = cellsOf spc (o' ++ [b])))
        have HM := Lib.hid hm
        have HLEN := Lib.hid hlen
        unfold spv at LA HA LC HC CB
        clear hh hown hb hm hlen hat hml hget hgl2 BX HO hg
        simp only [World.size_alloc] at BA
        generalize hla : clo a = la at *
        generalize hha : chi a = ha at *
        generalize hlc : clo c = lc at *
        generalize hhc : chi c = hc at *
        clear hla hha hlc hhc
        go_wp2_with fail
        generalize ((wr.alloc (.cells #[.int .i64 (c.lo : Int), .int .i64 (c.hi : Int)] 46)).alloc (.cells #[.int .i64 (a.lo : Int), .int .i64 (a.hi : Int)] 46)) = W at *
        have hgcne : wr.heap.size + 1 = wr.heap.size + 1 := rfl
        generalize wr.heap.size + 1 = ga at *
        generalize wr.heap.size = gc at *
        clear hgcne c0' c1' x0 x1
        by_cases hL : lc < ha
        · have gL : decide (lc < ha) = true := decide_eq_true hL
          have QL := Lib.hid hL
          clear hL
          by_cases hbA : la = ha
          · have gA : ((la : Int) == (ha : Int)) = true := by simp [hbA]
            clear hbA
            refine wp_region_below (by kernel_rfl) (by kernel_rfl) ?_
            intro ι F hne hF hG
            have p0 : ∀ i, (F i).cell? ⟨gc, 0, none⟩ = some (.int .i64 (c.lo : Int)) := fun i => (BX2.below (hF i) BX2.lt).cell 0
            have p1 : ∀ i, (F i).cell? ⟨gc, 1, none⟩ = some (.int .i64 (c.hi : Int)) := fun i => (BX2.below (hF i) BX2.lt).cell 1
            have q0 : ∀ i, (F i).cell? ⟨ga, 0, none⟩ = some (.int .i64 (a.lo : Int)) := fun i => (BA.below (hF i) BA.lt).cell 0
            have q1 : ∀ i, (F i).cell? ⟨ga, 1, none⟩ = some (.int .i64 (a.hi : Int)) := fun i => (BA.below (hF i) BA.lt).cell 1
            repeat go_big_quiet_step (first | ((with_reducible refine (LA.out _).mono ?_); rintro e w1 ⟨rfl, hb⟩; exact ⟨rfl, hG _ _ hb.below⟩) | ((with_reducible refine (HA.out _).mono ?_); rintro e w1 ⟨rfl, hb⟩; exact ⟨rfl, hG _ _ hb.below⟩) | ((with_reducible refine (LC.out _).mono ?_); rintro e w1 ⟨rfl, hb⟩; exact ⟨rfl, hG _ _ hb.below⟩) | ((with_reducible refine (HC.out _).mono ?_); rintro e w1 ⟨rfl, hb⟩; exact ⟨rfl, hG _ _ hb.below⟩))
            refine wpQuiet_nil ?_
            intro _ hw'
            obtain ⟨nr, rfl⟩ := hw'
            have hI5 := hF nr
            generalize F nr = w5 at *
            have HI5 := Lib.hid (hI5)
            have BX5 := BX2.below hI5 BX2.lt
            have BA5 := BA.below hI5 BA.lt
            clear p0 p1 q0 q1 hI5 hF hG
            go_wp2_with fail
            refine wp_region_below (by kernel_rfl) (by kernel_rfl) ?_
            intro ι F hne hF hG
            have p0 : ∀ i, (F i).cell? ⟨gc, 0, none⟩ = some (.int .i64 (c.lo : Int)) := fun i => (BX5.below (hF i) BX5.lt).cell 0
            have p1 : ∀ i, (F i).cell? ⟨gc, 1, none⟩ = some (.int .i64 (c.hi : Int)) := fun i => (BX5.below (hF i) BX5.lt).cell 1
            have q0 : ∀ i, (F i).cell? ⟨ga, 0, none⟩ = some (.int .i64 (a.lo : Int)) := fun i => (BA5.below (hF i) BA5.lt).cell 0
            have q1 : ∀ i, (F i).cell? ⟨ga, 1, none⟩ = some (.int .i64 (a.hi : Int)) := fun i => (BA5.below (hF i) BA5.lt).cell 1
            repeat go_big_quiet_step (first | ((with_reducible refine (HA.out _).mono ?_); rintro e w1 ⟨rfl, hb⟩; exact ⟨rfl, hG _ _ hb.below⟩) | ((with_reducible refine (LC.out _).mono ?_); rintro e w1 ⟨rfl, hb⟩; exact ⟨rfl, hG _ _ hb.below⟩))
            refine wpQuiet_nil ?_
            intro _ hw'
            obtain ⟨nr, rfl⟩ := hw'
            have hI6 := hF nr
            generalize F nr = w6 at *
            have HI6 := Lib.hid (bstep HI5.out hI6)
            have BX6 := BX5.below hI6 BX5.lt
            have BA6 := BA5.below hI6 BA5.lt
            clear p0 p1 q0 q1 hI6 hF hG
            have HO6 := Lib.hid (own_below HOW.out HI6.out)
            have HB6 := Lib.hid (bstep HBW.out HI6.out)
            have p0 : w6.cell? ⟨gc, 0, none⟩ = some (.int .i64 (c.lo : Int)) := BX6.cell 0
            have p1 : w6.cell? ⟨gc, 1, none⟩ = some (.int .i64 (c.hi : Int)) := BX6.cell 1
            have q0 : w6.cell? ⟨ga, 0, none⟩ = some (.int .i64 (a.lo : Int)) := BA6.cell 0
            have q1 : w6.cell? ⟨ga, 1, none⟩ = some (.int .i64 (a.hi : Int)) := BA6.cell 1
            have HHT : Hid (hits a c = true) := Lib.hid (by rw [HH.out]; rw [decide_eq_true QL.out]; rfl)
            go_wp2_with fail
            refine (CB.out _).mono ?_
            rintro e w7 ⟨rfl, hb7⟩
            generalize both a c = z at *
            have HO7 := Lib.hid (own_below HO6.out hb7)
            have HB7 := Lib.hid (bstep HB6.out hb7)
            have f0 : w7.frozen? ⟨g, m * 2, none⟩ = false := HO7.out.frozenAt (m * 2)
            have f1 : w7.frozen? ⟨g, m * 2 + 1, none⟩ = false := HO7.out.frozenAt (m * 2 + 1)
            have f2 : (w7.setCell ⟨g, m * 2, none⟩ (.int .i64 (z.lo : Int))).frozen? ⟨g, m * 2 + 1, none⟩ = false := (HO7.out.stored (m * 2) (.int .i64 (z.lo : Int))).1.frozenAt (m * 2 + 1)
            obtain ⟨u0, d0⟩ : ∃ u, w7.cell? ⟨g, m * 2, none⟩ = some u := own_has HO7.out (by omega)
            obtain ⟨u1, d1⟩ : ∃ u, (w7.setCell ⟨g, m * 2, none⟩ (.int .i64 (z.lo : Int))).cell? ⟨g, m * 2 + 1, none⟩ = some u := own_has (HO7.out.stored (m * 2) (.int .i64 (z.lo : Int))).1 (by omega)
            clear hb7 p0 p1 q0 q1
            go_wp2_with fail
            refine ⟨⟨k + 1, o' ++ [z], by omega, by go_num, Lib.hid (by rw [HST.out, HNS.out, HHT.out]; rfl), ?_, (HB7.out.setCell (p := ⟨g, m * 2, none⟩) hw2 _).setCell (p := ⟨g, m * 2 + 1, none⟩) hw2 _⟩, by simp [intOf]; omega⟩
            have h9 := ((HO7.out.stored (m * 2) (.int .i64 (z.lo : Int))).1.stored (m * 2 + 1) (.int .i64 (z.hi : Int))).1
            rw [HSL2.out z] at h9
            rw [List.length_append, List.length_singleton, HM.out]
            exact h9
          · have gA : ((la : Int) == (ha : Int)) = false := by rw [beq_eq_false_iff_ne]; omega
            clear hbA
            refine wp_region_below (by kernel_rfl) (by kernel_rfl) ?_
            intro ι F hne hF hG
            have p0 : ∀ i, (F i).cell? ⟨gc, 0, none⟩ = some (.int .i64 (c.lo : Int)) := fun i => (BX2.below (hF i) BX2.lt).cell 0
            have p1 : ∀ i, (F i).cell? ⟨gc, 1, none⟩ = some (.int .i64 (c.hi : Int)) := fun i => (BX2.below (hF i) BX2.lt).cell 1
            have q0 : ∀ i, (F i).cell? ⟨ga, 0, none⟩ = some (.int .i64 (a.lo : Int)) := fun i => (BA.below (hF i) BA.lt).cell 0
            have q1 : ∀ i, (F i).cell? ⟨ga, 1, none⟩ = some (.int .i64 (a.hi : Int)) := fun i => (BA.below (hF i) BA.lt).cell 1
            repeat go_big_quiet_step (first | ((with_reducible refine (LA.out _).mono ?_); rintro e w1 ⟨rfl, hb⟩; exact ⟨rfl, hG _ _ hb.below⟩) | ((with_reducible refine (HA.out _).mono ?_); rintro e w1 ⟨rfl, hb⟩; exact ⟨rfl, hG _ _ hb.below⟩) | ((with_reducible refine (LC.out _).mono ?_); rintro e w1 ⟨rfl, hb⟩; exact ⟨rfl, hG _ _ hb.below⟩) | ((with_reducible refine (HC.out _).mono ?_); rintro e w1 ⟨rfl, hb⟩; exact ⟨rfl, hG _ _ hb.below⟩))
            refine wpQuiet_nil ?_
            intro _ hw'
            obtain ⟨nr, rfl⟩ := hw'
            have hI5 := hF nr
            generalize F nr = w5 at *
            have HI5 := Lib.hid (hI5)
            have BX5 := BX2.below hI5 BX2.lt
            have BA5 := BA.below hI5 BA.lt
            clear p0 p1 q0 q1 hI5 hF hG
            go_wp2_with fail
            refine wp_region_below (by kernel_rfl) (by kernel_rfl) ?_
            intro ι F hne hF hG
            have p0 : ∀ i, (F i).cell? ⟨gc, 0, none⟩ = some (.int .i64 (c.lo : Int)) := fun i => (BX5.below (hF i) BX5.lt).cell 0
            have p1 : ∀ i, (F i).cell? ⟨gc, 1, none⟩ = some (.int .i64 (c.hi : Int)) := fun i => (BX5.below (hF i) BX5.lt).cell 1
            have q0 : ∀ i, (F i).cell? ⟨ga, 0, none⟩ = some (.int .i64 (a.lo : Int)) := fun i => (BA5.below (hF i) BA5.lt).cell 0
            have q1 : ∀ i, (F i).cell? ⟨ga, 1, none⟩ = some (.int .i64 (a.hi : Int)) := fun i => (BA5.below (hF i) BA5.lt).cell 1
            repeat go_big_quiet_step (first | ((with_reducible refine (HA.out _).mono ?_); rintro e w1 ⟨rfl, hb⟩; exact ⟨rfl, hG _ _ hb.below⟩) | ((with_reducible refine (LC.out _).mono ?_); rintro e w1 ⟨rfl, hb⟩; exact ⟨rfl, hG _ _ hb.below⟩))
            refine wpQuiet_nil ?_
            intro _ hw'
            obtain ⟨nr, rfl⟩ := hw'
            have hI6 := hF nr
            generalize F nr = w6 at *
            have HI6 := Lib.hid (bstep HI5.out hI6)
            have BX6 := BX5.below hI6 BX5.lt
            have BA6 := BA5.below hI6 BA5.lt
            clear p0 p1 q0 q1 hI6 hF hG
            have HO6 := Lib.hid (own_below HOW.out HI6.out)
            have HB6 := Lib.hid (bstep HBW.out HI6.out)
            have p0 : w6.cell? ⟨gc, 0, none⟩ = some (.int .i64 (c.lo : Int)) := BX6.cell 0
            have p1 : w6.cell? ⟨gc, 1, none⟩ = some (.int .i64 (c.hi : Int)) := BX6.cell 1
            have q0 : w6.cell? ⟨ga, 0, none⟩ = some (.int .i64 (a.lo : Int)) := BA6.cell 0
            have q1 : w6.cell? ⟨ga, 1, none⟩ = some (.int .i64 (a.hi : Int)) := BA6.cell 1
            have HHT : Hid (hits a c = true) := Lib.hid (by rw [HH.out]; rw [decide_eq_true QL.out]; rfl)
            go_wp2_with fail
            refine (CB.out _).mono ?_
            rintro e w7 ⟨rfl, hb7⟩
            generalize both a c = z at *
            have HO7 := Lib.hid (own_below HO6.out hb7)
            have HB7 := Lib.hid (bstep HB6.out hb7)
            have f0 : w7.frozen? ⟨g, m * 2, none⟩ = false := HO7.out.frozenAt (m * 2)
            have f1 : w7.frozen? ⟨g, m * 2 + 1, none⟩ = false := HO7.out.frozenAt (m * 2 + 1)
            have f2 : (w7.setCell ⟨g, m * 2, none⟩ (.int .i64 (z.lo : Int))).frozen? ⟨g, m * 2 + 1, none⟩ = false := (HO7.out.stored (m * 2) (.int .i64 (z.lo : Int))).1.frozenAt (m * 2 + 1)
            obtain ⟨u0, d0⟩ : ∃ u, w7.cell? ⟨g, m * 2, none⟩ = some u := own_has HO7.out (by omega)
            obtain ⟨u1, d1⟩ : ∃ u, (w7.setCell ⟨g, m * 2, none⟩ (.int .i64 (z.lo : Int))).cell? ⟨g, m * 2 + 1, none⟩ = some u := own_has (HO7.out.stored (m * 2) (.int .i64 (z.lo : Int))).1 (by omega)
            clear hb7 p0 p1 q0 q1
            go_wp2_with fail
            refine ⟨⟨k + 1, o' ++ [z], by omega, by go_num, Lib.hid (by rw [HST.out, HNS.out, HHT.out]; rfl), ?_, (HB7.out.setCell (p := ⟨g, m * 2, none⟩) hw2 _).setCell (p := ⟨g, m * 2 + 1, none⟩) hw2 _⟩, by simp [intOf]; omega⟩
            have h9 := ((HO7.out.stored (m * 2) (.int .i64 (z.lo : Int))).1.stored (m * 2 + 1) (.int .i64 (z.hi : Int))).1
            rw [HSL2.out z] at h9
            rw [List.length_append, List.length_singleton, HM.out]
            exact h9
        · have gL : decide (lc < ha) = false := decide_eq_false hL
          have QL := Lib.hid hL
          by_cases hE : lc = ha
          · have gE : ((lc : Int) == (ha : Int)) = true := by simp [hE]
            have QE := Lib.hid hE
            clear hL hE
            by_cases hbA : la = ha
            · have gA : ((la : Int) == (ha : Int)) = true := by simp [hbA]
              have QA := Lib.hid hbA
              clear hbA
              refine wp_region_below (by kernel_rfl) (by kernel_rfl) ?_
              intro ι F hne hF hG
              have p0 : ∀ i, (F i).cell? ⟨gc, 0, none⟩ = some (.int .i64 (c.lo : Int)) := fun i => (BX2.below (hF i) BX2.lt).cell 0
              have p1 : ∀ i, (F i).cell? ⟨gc, 1, none⟩ = some (.int .i64 (c.hi : Int)) := fun i => (BX2.below (hF i) BX2.lt).cell 1
              have q0 : ∀ i, (F i).cell? ⟨ga, 0, none⟩ = some (.int .i64 (a.lo : Int)) := fun i => (BA.below (hF i) BA.lt).cell 0
              have q1 : ∀ i, (F i).cell? ⟨ga, 1, none⟩ = some (.int .i64 (a.hi : Int)) := fun i => (BA.below (hF i) BA.lt).cell 1
              repeat go_big_quiet_step (first | ((with_reducible refine (LA.out _).mono ?_); rintro e w1 ⟨rfl, hb⟩; exact ⟨rfl, hG _ _ hb.below⟩) | ((with_reducible refine (HA.out _).mono ?_); rintro e w1 ⟨rfl, hb⟩; exact ⟨rfl, hG _ _ hb.below⟩) | ((with_reducible refine (LC.out _).mono ?_); rintro e w1 ⟨rfl, hb⟩; exact ⟨rfl, hG _ _ hb.below⟩) | ((with_reducible refine (HC.out _).mono ?_); rintro e w1 ⟨rfl, hb⟩; exact ⟨rfl, hG _ _ hb.below⟩))
              refine wpQuiet_nil ?_
              intro _ hw'
              obtain ⟨nr, rfl⟩ := hw'
              have hI5 := hF nr
              generalize F nr = w5 at *
              have HI5 := Lib.hid (hI5)
              have BX5 := BX2.below hI5 BX2.lt
              have BA5 := BA.below hI5 BA.lt
              clear p0 p1 q0 q1 hI5 hF hG
              go_wp2_with fail
              refine wp_region_below (by kernel_rfl) (by kernel_rfl) ?_
              intro ι F hne hF hG
              have p0 : ∀ i, (F i).cell? ⟨gc, 0, none⟩ = some (.int .i64 (c.lo : Int)) := fun i => (BX5.below (hF i) BX5.lt).cell 0
              have p1 : ∀ i, (F i).cell? ⟨gc, 1, none⟩ = some (.int .i64 (c.hi : Int)) := fun i => (BX5.below (hF i) BX5.lt).cell 1
              have q0 : ∀ i, (F i).cell? ⟨ga, 0, none⟩ = some (.int .i64 (a.lo : Int)) := fun i => (BA5.below (hF i) BA5.lt).cell 0
              have q1 : ∀ i, (F i).cell? ⟨ga, 1, none⟩ = some (.int .i64 (a.hi : Int)) := fun i => (BA5.below (hF i) BA5.lt).cell 1
              repeat go_big_quiet_step (first | ((with_reducible refine (HA.out _).mono ?_); rintro e w1 ⟨rfl, hb⟩; exact ⟨rfl, hG _ _ hb.below⟩) | ((with_reducible refine (LC.out _).mono ?_); rintro e w1 ⟨rfl, hb⟩; exact ⟨rfl, hG _ _ hb.below⟩))
              refine wpQuiet_nil ?_
              intro _ hw'
              obtain ⟨nr, rfl⟩ := hw'
              have hI6 := hF nr
              generalize F nr = w6 at *
              have HI6 := Lib.hid (bstep HI5.out hI6)
              have BX6 := BX5.below hI6 BX5.lt
              have BA6 := BA5.below hI6 BA5.lt
              clear p0 p1 q0 q1 hI6 hF hG
              have HO6 := Lib.hid (own_below HOW.out HI6.out)
              have HB6 := Lib.hid (bstep HBW.out HI6.out)
              have p0 : w6.cell? ⟨gc, 0, none⟩ = some (.int .i64 (c.lo : Int)) := BX6.cell 0
              have p1 : w6.cell? ⟨gc, 1, none⟩ = some (.int .i64 (c.hi : Int)) := BX6.cell 1
              have q0 : w6.cell? ⟨ga, 0, none⟩ = some (.int .i64 (a.lo : Int)) := BA6.cell 0
              have q1 : w6.cell? ⟨ga, 1, none⟩ = some (.int .i64 (a.hi : Int)) := BA6.cell 1
              have HHT : Hid (hits a c = true) := Lib.hid (by rw [HH.out]; rw [decide_eq_true QE.out, decide_eq_true QA.out]; simp)
              go_wp2_with fail
              refine (CB.out _).mono ?_
              rintro e w7 ⟨rfl, hb7⟩
              generalize both a c = z at *
              have HO7 := Lib.hid (own_below HO6.out hb7)
              have HB7 := Lib.hid (bstep HB6.out hb7)
              have f0 : w7.frozen? ⟨g, m * 2, none⟩ = false := HO7.out.frozenAt (m * 2)
              have f1 : w7.frozen? ⟨g, m * 2 + 1, none⟩ = false := HO7.out.frozenAt (m * 2 + 1)
              have f2 : (w7.setCell ⟨g, m * 2, none⟩ (.int .i64 (z.lo : Int))).frozen? ⟨g, m * 2 + 1, none⟩ = false := (HO7.out.stored (m * 2) (.int .i64 (z.lo : Int))).1.frozenAt (m * 2 + 1)
              obtain ⟨u0, d0⟩ : ∃ u, w7.cell? ⟨g, m * 2, none⟩ = some u := own_has HO7.out (by omega)
              obtain ⟨u1, d1⟩ : ∃ u, (w7.setCell ⟨g, m * 2, none⟩ (.int .i64 (z.lo : Int))).cell? ⟨g, m * 2 + 1, none⟩ = some u := own_has (HO7.out.stored (m * 2) (.int .i64 (z.lo : Int))).1 (by omega)
              clear hb7 p0 p1 q0 q1
              go_wp2_with fail
              refine ⟨⟨k + 1, o' ++ [z], by omega, by go_num, Lib.hid (by rw [HST.out, HNS.out, HHT.out]; rfl), ?_, (HB7.out.setCell (p := ⟨g, m * 2, none⟩) hw2 _).setCell (p := ⟨g, m * 2 + 1, none⟩) hw2 _⟩, by simp [intOf]; omega⟩
              have h9 := ((HO7.out.stored (m * 2) (.int .i64 (z.lo : Int))).1.stored (m * 2 + 1) (.int .i64 (z.hi : Int))).1
              rw [HSL2.out z] at h9
              rw [List.length_append, List.length_singleton, HM.out]
              exact h9
            · have gA : ((la : Int) == (ha : Int)) = false := by rw [beq_eq_false_iff_ne]; omega
              have QA := Lib.hid hbA
              clear hbA
              by_cases hbC : lc = hc
              · have gC : ((lc : Int) == (hc : Int)) = true := by simp [hbC]
                have QC := Lib.hid hbC
                clear hbC
                refine wp_region_below (by kernel_rfl) (by kernel_rfl) ?_
                intro ι F hne hF hG
                have p0 : ∀ i, (F i).cell? ⟨gc, 0, none⟩ = some (.int .i64 (c.lo : Int)) := fun i => (BX2.below (hF i) BX2.lt).cell 0
                have p1 : ∀ i, (F i).cell? ⟨gc, 1, none⟩ = some (.int .i64 (c.hi : Int)) := fun i => (BX2.below (hF i) BX2.lt).cell 1
                have q0 : ∀ i, (F i).cell? ⟨ga, 0, none⟩ = some (.int .i64 (a.lo : Int)) := fun i => (BA.below (hF i) BA.lt).cell 0
                have q1 : ∀ i, (F i).cell? ⟨ga, 1, none⟩ = some (.int .i64 (a.hi : Int)) := fun i => (BA.below (hF i) BA.lt).cell 1
                repeat go_big_quiet_step (first | ((with_reducible refine (LA.out _).mono ?_); rintro e w1 ⟨rfl, hb⟩; exact ⟨rfl, hG _ _ hb.below⟩) | ((with_reducible refine (HA.out _).mono ?_); rintro e w1 ⟨rfl, hb⟩; exact ⟨rfl, hG _ _ hb.below⟩) | ((with_reducible refine (LC.out _).mono ?_); rintro e w1 ⟨rfl, hb⟩; exact ⟨rfl, hG _ _ hb.below⟩) | ((with_reducible refine (HC.out _).mono ?_); rintro e w1 ⟨rfl, hb⟩; exact ⟨rfl, hG _ _ hb.below⟩))
                refine wpQuiet_nil ?_
                intro _ hw'
                obtain ⟨nr, rfl⟩ := hw'
                have hI5 := hF nr
                generalize F nr = w5 at *
                have HI5 := Lib.hid (hI5)
                have BX5 := BX2.below hI5 BX2.lt
                have BA5 := BA.below hI5 BA.lt
                clear p0 p1 q0 q1 hI5 hF hG
                go_wp2_with fail
                refine wp_region_below (by kernel_rfl) (by kernel_rfl) ?_
                intro ι F hne hF hG
                have p0 : ∀ i, (F i).cell? ⟨gc, 0, none⟩ = some (.int .i64 (c.lo : Int)) := fun i => (BX5.below (hF i) BX5.lt).cell 0
                have p1 : ∀ i, (F i).cell? ⟨gc, 1, none⟩ = some (.int .i64 (c.hi : Int)) := fun i => (BX5.below (hF i) BX5.lt).cell 1
                have q0 : ∀ i, (F i).cell? ⟨ga, 0, none⟩ = some (.int .i64 (a.lo : Int)) := fun i => (BA5.below (hF i) BA5.lt).cell 0
                have q1 : ∀ i, (F i).cell? ⟨ga, 1, none⟩ = some (.int .i64 (a.hi : Int)) := fun i => (BA5.below (hF i) BA5.lt).cell 1
                repeat go_big_quiet_step (first | ((with_reducible refine (HA.out _).mono ?_); rintro e w1 ⟨rfl, hb⟩; exact ⟨rfl, hG _ _ hb.below⟩) | ((with_reducible refine (LC.out _).mono ?_); rintro e w1 ⟨rfl, hb⟩; exact ⟨rfl, hG _ _ hb.below⟩))
                refine wpQuiet_nil ?_
                intro _ hw'
                obtain ⟨nr, rfl⟩ := hw'
                have hI6 := hF nr
                generalize F nr = w6 at *
                have HI6 := Lib.hid (bstep HI5.out hI6)
                have BX6 := BX5.below hI6 BX5.lt
                have BA6 := BA5.below hI6 BA5.lt
                clear p0 p1 q0 q1 hI6 hF hG
                have HO6 := Lib.hid (own_below HOW.out HI6.out)
                have HB6 := Lib.hid (bstep HBW.out HI6.out)
                have p0 : w6.cell? ⟨gc, 0, none⟩ = some (.int .i64 (c.lo : Int)) := BX6.cell 0
                have p1 : w6.cell? ⟨gc, 1, none⟩ = some (.int .i64 (c.hi : Int)) := BX6.cell 1
                have q0 : w6.cell? ⟨ga, 0, none⟩ = some (.int .i64 (a.lo : Int)) := BA6.cell 0
                have q1 : w6.cell? ⟨ga, 1, none⟩ = some (.int .i64 (a.hi : Int)) := BA6.cell 1
                have HHT : Hid (hits a c = true) := Lib.hid (by rw [HH.out]; rw [decide_eq_true QE.out, decide_eq_true QC.out]; simp)
                go_wp2_with fail
                refine (CB.out _).mono ?_
                rintro e w7 ⟨rfl, hb7⟩
                generalize both a c = z at *
                have HO7 := Lib.hid (own_below HO6.out hb7)
                have HB7 := Lib.hid (bstep HB6.out hb7)
                have f0 : w7.frozen? ⟨g, m * 2, none⟩ = false := HO7.out.frozenAt (m * 2)
                have f1 : w7.frozen? ⟨g, m * 2 + 1, none⟩ = false := HO7.out.frozenAt (m * 2 + 1)
                have f2 : (w7.setCell ⟨g, m * 2, none⟩ (.int .i64 (z.lo : Int))).frozen? ⟨g, m * 2 + 1, none⟩ = false := (HO7.out.stored (m * 2) (.int .i64 (z.lo : Int))).1.frozenAt (m * 2 + 1)
                obtain ⟨u0, d0⟩ : ∃ u, w7.cell? ⟨g, m * 2, none⟩ = some u := own_has HO7.out (by omega)
                obtain ⟨u1, d1⟩ : ∃ u, (w7.setCell ⟨g, m * 2, none⟩ (.int .i64 (z.lo : Int))).cell? ⟨g, m * 2 + 1, none⟩ = some u := own_has (HO7.out.stored (m * 2) (.int .i64 (z.lo : Int))).1 (by omega)
                clear hb7 p0 p1 q0 q1
                go_wp2_with fail
                refine ⟨⟨k + 1, o' ++ [z], by omega, by go_num, Lib.hid (by rw [HST.out, HNS.out, HHT.out]; rfl), ?_, (HB7.out.setCell (p := ⟨g, m * 2, none⟩) hw2 _).setCell (p := ⟨g, m * 2 + 1, none⟩) hw2 _⟩, by simp [intOf]; omega⟩
                have h9 := ((HO7.out.stored (m * 2) (.int .i64 (z.lo : Int))).1.stored (m * 2 + 1) (.int .i64 (z.hi : Int))).1
                rw [HSL2.out z] at h9
                rw [List.length_append, List.length_singleton, HM.out]
                exact h9
              · have gC : ((lc : Int) == (hc : Int)) = false := by rw [beq_eq_false_iff_ne]; omega
                have QC := Lib.hid hbC
                clear hbC
                refine wp_region_below (by kernel_rfl) (by kernel_rfl) ?_
                intro ι F hne hF hG
                have p0 : ∀ i, (F i).cell? ⟨gc, 0, none⟩ = some (.int .i64 (c.lo : Int)) := fun i => (BX2.below (hF i) BX2.lt).cell 0
                have p1 : ∀ i, (F i).cell? ⟨gc, 1, none⟩ = some (.int .i64 (c.hi : Int)) := fun i => (BX2.below (hF i) BX2.lt).cell 1
                have q0 : ∀ i, (F i).cell? ⟨ga, 0, none⟩ = some (.int .i64 (a.lo : Int)) := fun i => (BA.below (hF i) BA.lt).cell 0
                have q1 : ∀ i, (F i).cell? ⟨ga, 1, none⟩ = some (.int .i64 (a.hi : Int)) := fun i => (BA.below (hF i) BA.lt).cell 1
                repeat go_big_quiet_step (first | ((with_reducible refine (LA.out _).mono ?_); rintro e w1 ⟨rfl, hb⟩; exact ⟨rfl, hG _ _ hb.below⟩) | ((with_reducible refine (HA.out _).mono ?_); rintro e w1 ⟨rfl, hb⟩; exact ⟨rfl, hG _ _ hb.below⟩) | ((with_reducible refine (LC.out _).mono ?_); rintro e w1 ⟨rfl, hb⟩; exact ⟨rfl, hG _ _ hb.below⟩) | ((with_reducible refine (HC.out _).mono ?_); rintro e w1 ⟨rfl, hb⟩; exact ⟨rfl, hG _ _ hb.below⟩))
                refine wpQuiet_nil ?_
                intro _ hw'
                obtain ⟨nr, rfl⟩ := hw'
                have hI5 := hF nr
                generalize F nr = w5 at *
                have HI5 := Lib.hid (hI5)
                have BX5 := BX2.below hI5 BX2.lt
                have BA5 := BA.below hI5 BA.lt
                clear p0 p1 q0 q1 hI5 hF hG
                go_wp2_with fail
                refine wp_region_below (by kernel_rfl) (by kernel_rfl) ?_
                intro ι F hne hF hG
                have p0 : ∀ i, (F i).cell? ⟨gc, 0, none⟩ = some (.int .i64 (c.lo : Int)) := fun i => (BX5.below (hF i) BX5.lt).cell 0
                have p1 : ∀ i, (F i).cell? ⟨gc, 1, none⟩ = some (.int .i64 (c.hi : Int)) := fun i => (BX5.below (hF i) BX5.lt).cell 1
                have q0 : ∀ i, (F i).cell? ⟨ga, 0, none⟩ = some (.int .i64 (a.lo : Int)) := fun i => (BA5.below (hF i) BA5.lt).cell 0
                have q1 : ∀ i, (F i).cell? ⟨ga, 1, none⟩ = some (.int .i64 (a.hi : Int)) := fun i => (BA5.below (hF i) BA5.lt).cell 1
                repeat go_big_quiet_step (first | ((with_reducible refine (HA.out _).mono ?_); rintro e w1 ⟨rfl, hb⟩; exact ⟨rfl, hG _ _ hb.below⟩) | ((with_reducible refine (LC.out _).mono ?_); rintro e w1 ⟨rfl, hb⟩; exact ⟨rfl, hG _ _ hb.below⟩))
                refine wpQuiet_nil ?_
                intro _ hw'
                obtain ⟨nr, rfl⟩ := hw'
                have hI6 := hF nr
                generalize F nr = w6 at *
                have HI6 := Lib.hid (bstep HI5.out hI6)
                have BX6 := BX5.below hI6 BX5.lt
                have BA6 := BA5.below hI6 BA5.lt
                clear p0 p1 q0 q1 hI6 hF hG
                have HO6 := Lib.hid (own_below HOW.out HI6.out)
                have HB6 := Lib.hid (bstep HBW.out HI6.out)
                have p0 : w6.cell? ⟨gc, 0, none⟩ = some (.int .i64 (c.lo : Int)) := BX6.cell 0
                have p1 : w6.cell? ⟨gc, 1, none⟩ = some (.int .i64 (c.hi : Int)) := BX6.cell 1
                have q0 : w6.cell? ⟨ga, 0, none⟩ = some (.int .i64 (a.lo : Int)) := BA6.cell 0
                have q1 : w6.cell? ⟨ga, 1, none⟩ = some (.int .i64 (a.hi : Int)) := BA6.cell 1
                have HHT : Hid (hits a c = false) := Lib.hid (by rw [HH.out]; rw [decide_eq_false QL.out, decide_eq_false QA.out, decide_eq_false QC.out]; simp)
                replace HOW := HO6
                replace HBW := HB6
                have hmm : m + 1 ≤ 19 := by omega
                go_wp2_with (at_builtin; go_loud (refine wpList_appN rfl (.tmp 63) (.tmp 65) _ rfl w2.heap.size 46 _ 2 16 Try.underlying43 cur_info rfl (by decide) (.slice (some ⟨g, 0, none⟩) (m + 1) co) (m + 1) _ rfl HOW.out (spc c) rfl _ rfl (by simp) rfl (spc_one c) (by omega) (by omega) HBW.out.size ?_; intro v8 w8 ho8 hB8 hg8; have HO8 := Lib.hid ho8; have HB8 := Lib.hid (hB8 _ (Nat.le_refl _) _ HBW.out); clear ho8 hB8 hg8))
                refine ⟨⟨k + 1, o' ++ [a, c], by omega, by go_num, Lib.hid (by rw [HST.out, HNS.out, HHT.out]; rfl), ?_, HB8.out⟩, by simp [intOf]; omega⟩
                have h9 := HO8.out
                rw [show o' ++ [a, c] = (o' ++ [a]) ++ [c] by simp, cellsOf_snoc, List.length_append, HLEN.out]
                exact h9
          · have gE : ((lc : Int) == (ha : Int)) = false := by rw [beq_eq_false_iff_ne]; omega
            have QE := Lib.hid hE
            clear hL hE
            by_cases hbA : la = ha
            · have gA : ((la : Int) == (ha : Int)) = true := by simp [hbA]
              clear hbA
              refine wp_region_below (by kernel_rfl) (by kernel_rfl) ?_
              intro ι F hne hF hG
              have p0 : ∀ i, (F i).cell? ⟨gc, 0, none⟩ = some (.int .i64 (c.lo : Int)) := fun i => (BX2.below (hF i) BX2.lt).cell 0
              have p1 : ∀ i, (F i).cell? ⟨gc, 1, none⟩ = some (.int .i64 (c.hi : Int)) := fun i => (BX2.below (hF i) BX2.lt).cell 1
              have q0 : ∀ i, (F i).cell? ⟨ga, 0, none⟩ = some (.int .i64 (a.lo : Int)) := fun i => (BA.below (hF i) BA.lt).cell 0
              have q1 : ∀ i, (F i).cell? ⟨ga, 1, none⟩ = some (.int .i64 (a.hi : Int)) := fun i => (BA.below (hF i) BA.lt).cell 1
              repeat go_big_quiet_step (first | ((with_reducible refine (LA.out _).mono ?_); rintro e w1 ⟨rfl, hb⟩; exact ⟨rfl, hG _ _ hb.below⟩) | ((with_reducible refine (HA.out _).mono ?_); rintro e w1 ⟨rfl, hb⟩; exact ⟨rfl, hG _ _ hb.below⟩) | ((with_reducible refine (LC.out _).mono ?_); rintro e w1 ⟨rfl, hb⟩; exact ⟨rfl, hG _ _ hb.below⟩) | ((with_reducible refine (HC.out _).mono ?_); rintro e w1 ⟨rfl, hb⟩; exact ⟨rfl, hG _ _ hb.below⟩))
              refine wpQuiet_nil ?_
              intro _ hw'
              obtain ⟨nr, rfl⟩ := hw'
              have hI5 := hF nr
              generalize F nr = w5 at *
              have HI5 := Lib.hid (hI5)
              have BX5 := BX2.below hI5 BX2.lt
              have BA5 := BA.below hI5 BA.lt
              clear p0 p1 q0 q1 hI5 hF hG
              go_wp2_with fail
              refine wp_region_below (by kernel_rfl) (by kernel_rfl) ?_
              intro ι F hne hF hG
              have p0 : ∀ i, (F i).cell? ⟨gc, 0, none⟩ = some (.int .i64 (c.lo : Int)) := fun i => (BX5.below (hF i) BX5.lt).cell 0
              have p1 : ∀ i, (F i).cell? ⟨gc, 1, none⟩ = some (.int .i64 (c.hi : Int)) := fun i => (BX5.below (hF i) BX5.lt).cell 1
              have q0 : ∀ i, (F i).cell? ⟨ga, 0, none⟩ = some (.int .i64 (a.lo : Int)) := fun i => (BA5.below (hF i) BA5.lt).cell 0
              have q1 : ∀ i, (F i).cell? ⟨ga, 1, none⟩ = some (.int .i64 (a.hi : Int)) := fun i => (BA5.below (hF i) BA5.lt).cell 1
              repeat go_big_quiet_step (first | ((with_reducible refine (HA.out _).mono ?_); rintro e w1 ⟨rfl, hb⟩; exact ⟨rfl, hG _ _ hb.below⟩) | ((with_reducible refine (LC.out _).mono ?_); rintro e w1 ⟨rfl, hb⟩; exact ⟨rfl, hG _ _ hb.below⟩))
              refine wpQuiet_nil ?_
              intro _ hw'
              obtain ⟨nr, rfl⟩ := hw'
              have hI6 := hF nr
              generalize F nr = w6 at *
              have HI6 := Lib.hid (bstep HI5.out hI6)
              have BX6 := BX5.below hI6 BX5.lt
              have BA6 := BA5.below hI6 BA5.lt
              clear p0 p1 q0 q1 hI6 hF hG
              have HO6 := Lib.hid (own_below HOW.out HI6.out)
              have HB6 := Lib.hid (bstep HBW.out HI6.out)
              have p0 : w6.cell? ⟨gc, 0, none⟩ = some (.int .i64 (c.lo : Int)) := BX6.cell 0
              have p1 : w6.cell? ⟨gc, 1, none⟩ = some (.int .i64 (c.hi : Int)) := BX6.cell 1
              have q0 : w6.cell? ⟨ga, 0, none⟩ = some (.int .i64 (a.lo : Int)) := BA6.cell 0
              have q1 : w6.cell? ⟨ga, 1, none⟩ = some (.int .i64 (a.hi : Int)) := BA6.cell 1
              have HHT : Hid (hits a c = false) := Lib.hid (by rw [HH.out]; rw [decide_eq_false QL.out, decide_eq_false QE.out]; rfl)
              replace HOW := HO6
              replace HBW := HB6
              have hmm : m + 1 ≤ 19 := by omega
              go_wp2_with (at_builtin; go_loud (refine wpList_appN rfl (.tmp 63) (.tmp 65) _ rfl w2.heap.size 46 _ 2 16 Try.underlying43 cur_info rfl (by decide) (.slice (some ⟨g, 0, none⟩) (m + 1) co) (m + 1) _ rfl HOW.out (spc c) rfl _ rfl (by simp) rfl (spc_one c) (by omega) (by omega) HBW.out.size ?_; intro v8 w8 ho8 hB8 hg8; have HO8 := Lib.hid ho8; have HB8 := Lib.hid (hB8 _ (Nat.le_refl _) _ HBW.out); clear ho8 hB8 hg8))
              refine ⟨⟨k + 1, o' ++ [a, c], by omega, by go_num, Lib.hid (by rw [HST.out, HNS.out, HHT.out]; rfl), ?_, HB8.out⟩, by simp [intOf]; omega⟩
              have h9 := HO8.out
              rw [show o' ++ [a, c] = (o' ++ [a]) ++ [c] by simp, cellsOf_snoc, List.length_append, HLEN.out]
              exact h9
            · have gA : ((la : Int) == (ha : Int)) = false := by rw [beq_eq_false_iff_ne]; omega
              clear hbA
              refine wp_region_below (by kernel_rfl) (by kernel_rfl) ?_
              intro ι F hne hF hG
              have p0 : ∀ i, (F i).cell? ⟨gc, 0, none⟩ = some (.int .i64 (c.lo : Int)) := fun i => (BX2.below (hF i) BX2.lt).cell 0
              have p1 : ∀ i, (F i).cell? ⟨gc, 1, none⟩ = some (.int .i64 (c.hi : Int)) := fun i => (BX2.below (hF i) BX2.lt).cell 1
              have q0 : ∀ i, (F i).cell? ⟨ga, 0, none⟩ = some (.int .i64 (a.lo : Int)) := fun i => (BA.below (hF i) BA.lt).cell 0
              have q1 : ∀ i, (F i).cell? ⟨ga, 1, none⟩ = some (.int .i64 (a.hi : Int)) := fun i => (BA.below (hF i) BA.lt).cell 1
              repeat go_big_quiet_step (first | ((with_reducible refine (LA.out _).mono ?_); rintro e w1 ⟨rfl, hb⟩; exact ⟨rfl, hG _ _ hb.below⟩) | ((with_reducible refine (HA.out _).mono ?_); rintro e w1 ⟨rfl, hb⟩; exact ⟨rfl, hG _ _ hb.below⟩) | ((with_reducible refine (LC.out _).mono ?_); rintro e w1 ⟨rfl, hb⟩; exact ⟨rfl, hG _ _ hb.below⟩) | ((with_reducible refine (HC.out _).mono ?_); rintro e w1 ⟨rfl, hb⟩; exact ⟨rfl, hG _ _ hb.below⟩))
              refine wpQuiet_nil ?_
              intro _ hw'
              obtain ⟨nr, rfl⟩ := hw'
              have hI5 := hF nr
              generalize F nr = w5 at *
              have HI5 := Lib.hid (hI5)
              have BX5 := BX2.below hI5 BX2.lt
              have BA5 := BA.below hI5 BA.lt
              clear p0 p1 q0 q1 hI5 hF hG
              go_wp2_with fail
              refine wp_region_below (by kernel_rfl) (by kernel_rfl) ?_
              intro ι F hne hF hG
              have p0 : ∀ i, (F i).cell? ⟨gc, 0, none⟩ = some (.int .i64 (c.lo : Int)) := fun i => (BX5.below (hF i) BX5.lt).cell 0
              have p1 : ∀ i, (F i).cell? ⟨gc, 1, none⟩ = some (.int .i64 (c.hi : Int)) := fun i => (BX5.below (hF i) BX5.lt).cell 1
              have q0 : ∀ i, (F i).cell? ⟨ga, 0, none⟩ = some (.int .i64 (a.lo : Int)) := fun i => (BA5.below (hF i) BA5.lt).cell 0
              have q1 : ∀ i, (F i).cell? ⟨ga, 1, none⟩ = some (.int .i64 (a.hi : Int)) := fun i => (BA5.below (hF i) BA5.lt).cell 1
              repeat go_big_quiet_step (first | ((with_reducible refine (HA.out _).mono ?_); rintro e w1 ⟨rfl, hb⟩; exact ⟨rfl, hG _ _ hb.below⟩) | ((with_reducible refine (LC.out _).mono ?_); rintro e w1 ⟨rfl, hb⟩; exact ⟨rfl, hG _ _ hb.below⟩))
              refine wpQuiet_nil ?_
              intro _ hw'
              obtain ⟨nr, rfl⟩ := hw'
              have hI6 := hF nr
              generalize F nr = w6 at *
              have HI6 := Lib.hid (bstep HI5.out hI6)
              have BX6 := BX5.below hI6 BX5.lt
              have BA6 := BA5.below hI6 BA5.lt
              clear p0 p1 q0 q1 hI6 hF hG
              have HO6 := Lib.hid (own_below HOW.out HI6.out)
              have HB6 := Lib.hid (bstep HBW.out HI6.out)
              have p0 : w6.cell? ⟨gc, 0, none⟩ = some (.int .i64 (c.lo : Int)) := BX6.cell 0
              have p1 : w6.cell? ⟨gc, 1, none⟩ = some (.int .i64 (c.hi : Int)) := BX6.cell 1
              have q0 : w6.cell? ⟨ga, 0, none⟩ = some (.int .i64 (a.lo : Int)) := BA6.cell 0
              have q1 : w6.cell? ⟨ga, 1, none⟩ = some (.int .i64 (a.hi : Int)) := BA6.cell 1
              have HHT : Hid (hits a c = false) := Lib.hid (by rw [HH.out]; rw [decide_eq_false QL.out, decide_eq_false QE.out]; rfl)
              replace HOW := HO6
              replace HBW := HB6
              have hmm : m + 1 ≤ 19 := by omega
              go_wp2_with (at_builtin; go_loud (refine wpList_appN rfl (.tmp 63) (.tmp 65) _ rfl w2.heap.size 46 _ 2 16 Try.underlying43 cur_info rfl (by decide) (.slice (some ⟨g, 0, none⟩) (m + 1) co) (m + 1) _ rfl HOW.out (spc c) rfl _ rfl (by simp) rfl (spc_one c) (by omega) (by omega) HBW.out.size ?_; intro v8 w8 ho8 hB8 hg8; have HO8 := Lib.hid ho8; have HB8 := Lib.hid (hB8 _ (Nat.le_refl _) _ HBW.out); clear ho8 hB8 hg8))
              refine ⟨⟨k + 1, o' ++ [a, c], by omega, by go_num, Lib.hid (by rw [HST.out, HNS.out, HHT.out]; rfl), ?_, HB8.out⟩, by simp [intOf]; omega⟩
              have h9 := HO8.out
              rw [show o' ++ [a, c] = (o' ++ [a]) ++ [c] by simp, cellsOf_snoc, List.length_append, HLEN.out]
              exact h9
    · obtain rfl : k = s.length := by omega
      rw [List.take_length] at HO
      go_wp2_with fail
      go_ret
      exact ⟨_, o, rfl, own_mono hown (HB2.out.size), ⟨⟨s, HP.out, HSR.out, HO.out⟩⟩, HB2.out.trans (hb.mono HB2.out.size)⟩
end Go.Proofs.Ythemlhkdgaeogaa
