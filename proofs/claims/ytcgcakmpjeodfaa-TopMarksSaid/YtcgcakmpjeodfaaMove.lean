/-
  The walk of marks.Move at marks and edits that may be: it moves each mark by each edit. Nothing that was there is changed.
-/
import Derived.Test.YtcgcakmpjeodfaaMkLib
import Derived.Test.YtcgcakmpjeodfaaMix
namespace Go.Proofs.Ytcgcakmpjeodfaa
open Go.RowKit
set_option linter.unusedVariables false

def MovePost (es : List Ed) (ms : List Mk) (w : World) (e : Ending) (w' : World) : Prop :=
  ∃ v, e = .returned (.tuple #[v, .int .i64 0]) ∧ w'.ownsRow w.heap.size 30 2 v ms.length (cellsOf mkc (ms.map (mvs es))) ∧ Below w.heap.size w w'

theorem step_list (L : List Mk) (d : Ed) (k : Nat) (hk : k < L.length) : ((L.take k).map (mv1 d) ++ L.drop k).set k (mv1 d L[k]) = (L.take (k + 1)).map (mv1 d) ++ L.drop (k + 1) := by
  have hl : ((L.take k).map (mv1 d)).length = k := by simp; omega
  rw [List.drop_eq_getElem_cons hk, List.set_append_right _ _ (by omega), hl, Nat.sub_self, List.set_cons_zero, List.take_succ_eq_append_getElem hk, List.map_append]
  simp
theorem at_list (L : List Mk) (d : Ed) (k : Nat) (hk : k < L.length) (h : k < ((L.take k).map (mv1 d) ++ L.drop k).length) : ((L.take k).map (mv1 d) ++ L.drop k)[k] = L[k] := by
  have hl : ((L.take k).map (mv1 d)).length = k := by simp; omega
  apply Option.some.inj
  rw [← List.getElem?_eq_getElem, ← List.getElem?_eq_getElem, List.getElem?_append_right (by omega), hl, Nat.sub_self, List.getElem?_drop]
  simp
set_option maxRecDepth 100000 in
set_option maxHeartbeats 4000000 in
theorem move_any (n : Nat) (v1 v2 : Value) (ms : List Mk) (es : List Ed) (w : World) (base : Nat) (h1 : w.ownsRow base 30 2 v1 ms.length (cellsOf mkc ms)) (h2 : EdRow w v2 es) (hn : n ≤ 600) (hm : ∀ m ∈ ms, m.at_ ≤ n)
    (hml : ms.length ≤ 60) (hl : es.length ≤ 60) (hput : ∀ e ∈ es, e.put.size ≤ 600) (ho : okr n es) :
    Calls Try.prog 19 #[.int .i64 n, v1, v2] w (MovePost es ms w) := by
  obtain ⟨A1, c1, hv1, hl1, hc1, -⟩ := CRow.of_own mkc_len h1
  subst hv1
  obtain ⟨A2, c2, rfl, hl2, hc2, hr2⟩ := id h2
  unfold maxLen at hc1 hc2
  have d1 : decide ((60 : Int) < (ms.length : Int)) = false := by simp; omega
  have d2 : decide ((60 : Int) < (es.length : Int)) = false := by simp; omega
  have H1 := Lib.hid h1
  clear h1
  go_enter Try.func19, Try.ntmps19
  go_wp2_with fail
  have q0 : (w.alloc (.cells #[.int .i64 (n : Int)] 3)).cell? ⟨w.heap.size, 0, none⟩ = some (.int .i64 (n : Int)) := by rw [(Blk.new w _ _).cell]; rfl
  refine (hasMark_any _ ms n w.heap.size _ base (H1.out.alloc _) hm q0).mono ?_
  rintro e w1 ⟨rfl, hb1⟩
  have B1 := (Blk.new w 3 #[.int .i64 (n : Int)]).below hb1 (by simp)
  have o1 := own_below (H1.out.alloc _) hb1
  have k1 := (bstep_alloc hb1)
  have q1 : w1.cell? ⟨w.heap.size, 0, none⟩ = some (.int .i64 (n : Int)) := by rw [B1.cell]; rfl
  clear hb1 q0 H1
  have hck := fun W => check_any n 0 0 ⟨#[]⟩ W (by omega) hn (by show n - 0 + 0 ≤ 600; omega)
  have CK := Lib.hid hck
  clear hck
  go_wp2_with fail
  refine (CK.out _).mono ?_
  rintro e w2 ⟨rfl, hb2⟩
  have B2 := B1.below hb2 B1.lt
  have o2 := own_below o1 hb2
  have k2 := bstep k1 hb2
  clear q1 B1 o1 hb2
  go_wp2_with fail
  refine (cloneMark_any _ ms _ base o2 (by omega)).mono ?_
  rintro e w3 ⟨vo, rfl, o3, hb3⟩
  have B3 := B2.below hb3 B2.lt
  have k3 := bstep k2 hb3
  have ho3 := own_mono o3 k2.size
  have hne : vo.ownBlock ≠ some w.heap.size := by
    intro e; have := (o3.lt _ e).1; have := B2.lt; omega
  clear o3 o2 B2 hb3 CK
  obtain ⟨Ao, co, hvo, hlo, hco, -⟩ := CRow.of_own mkc_len ho3
  subst hvo
  unfold maxLen at hco
  go_wp2_with fail
  clear d1 d2
  go_loopw [37] (fun i wr => ∃ j : Nat, j ≤ es.length ∧ i = .int .i64 j ∧ Blk wr w.heap.size 3 #[.int .i64 (sized n (es.take j) : Int)] ∧ wr.ownsRow w.heap.size 30 2 (.slice Ao ms.length co) ms.length (cellsOf mkc (ms.map (mvs (es.take j)))) ∧ Below w.heap.size w wr) (fun i _ => es.length - (intOf i).toNat)
  case atStart => exact ⟨0, Nat.zero_le _, rfl, B3, by have e : ms.map (mvs (es.take 0)) = ms := (List.map_congr_left (fun _ _ => rfl)).trans (List.map_id ms); rw [e]; exact ho3, k3⟩
  case round =>
    clear B3 ho3 k3
    obtain ⟨j, hj, rfl, B, hown, hbel⟩ := hrel
    by_cases hlt : j < es.length
    · obtain ⟨b0, o0, rfl, hab, c0, c1', c2'⟩ := EdRow.at_ (hr2.below hbel) hlt
      have hsn : es.take (j + 1) = es.take j ++ [es[j]] := List.take_succ_eq_append_getElem hlt
      have hoj : okr n (es.take j) ∧ okr (sized n (es.take j)) (es.drop j) := by rw [← okr_append, List.take_append_drop]; exact ho
      have h600 := sized_600 _ _ hn hoj.1
      have hdj : es.drop j = es[j] :: es.drop (j + 1) := by rw [List.drop_eq_getElem_cons hlt]
      rw [hdj] at hoj
      have ho1 := hoj.2.1
      have ho2 := hoj.2.2.1
      have hp6 := hput es[j] (List.getElem_mem hlt)
      have hL : ∀ m ∈ ms.map (mvs (es.take j)), m.at_ ≤ sized n (es.take j) := by
        intro m h
        obtain ⟨m0, h0, rfl⟩ := List.mem_map.1 h
        exact mvs_le _ _ _ hoj.1 (hm m0 h0)
      have hS : sized n (es.take (j + 1)) = sized n (es.take j) + es[j].put.size - es[j].c := by rw [hsn, sized_snoc]
      have hM : ms.map (mvs (es.take (j + 1))) = (ms.map (mvs (es.take j))).map (mv1 es[j]) := by
        rw [hsn, List.map_map]; exact List.map_congr_left fun m _ => mvs_snoc _ _ _
      have hLl : (ms.map (mvs (es.take j))).length = ms.length := List.length_map _
      generalize es[j] = d at *
      generalize ms.map (mvs (es.take j)) = L at *
      generalize sized n (es.take j) = S at *
      have HS := Lib.hid hS
      have HM := Lib.hid hM
      have HLL := Lib.hid hLl
      clear hS hM hLl hsn hoj hdj
      have q3 : wr.cell? ⟨w.heap.size, 0, none⟩ = some (.int .i64 (S : Int)) := by rw [B.cell]; rfl
      have l3 := B.lt
      have CK := Lib.hid (fun W => check_any S d.p d.c d.put W ho1 h600 (by omega))
      go_wp2_with fail
      refine (CK.out _).mono ?_
      rintro e w4 ⟨rfl, hb4⟩
      have B4 := (B.alloc _).below hb4 (by simp; omega)
      have E4 := (Blk.new wr 37 #[.int .i64 (d.p : Int), .int .i64 (d.c : Int), .string d.put]).below hb4 (by simp)
      have o4 := own_below (hown.alloc _) hb4
      have k4 := bstep hbel (bstep_alloc hb4)
      have l4 := E4.lt
      have l34 := B4.lt
      have q4 : w4.cell? ⟨w.heap.size, 0, none⟩ = some (.int .i64 (S : Int)) := by rw [B4.cell]; rfl
      have f4 := B4.frozen 0
      have e40 : w4.cell? ⟨wr.heap.size, 0, none⟩ = some (.int .i64 (d.p : Int)) := by rw [E4.cell]; rfl
      have e41 : w4.cell? ⟨wr.heap.size, 1, none⟩ = some (.int .i64 (d.c : Int)) := by rw [E4.cell]; rfl
      have e42 : w4.cell? ⟨wr.heap.size, 2, none⟩ = some (.string d.put) := by rw [E4.cell]; rfl
      have hEo : (Value.slice Ao ms.length co).ownBlock ≠ some wr.heap.size := by intro e; have := (hown.lt _ e).2; omega
      have n3 : w.heap.size ≠ wr.heap.size := by omega
      clear hb4 c0 c1' c2' q3 hown B
      generalize hgE : wr.heap.size = gE at *
      go_wp2_with fail
      have e1 : (S : Int) + ((d.put.size : Int) - (d.c : Int)) = ((S + d.put.size - d.c : Nat) : Int) := by omega
      rw [e1]
      have B5 := B4.set_ 0 (.int .i64 ((S + d.put.size - d.c : Nat) : Int))
      have E5 := E4.far (p := ⟨w.heap.size, 0, none⟩) (Ne.symm n3) (.int .i64 ((S + d.put.size - d.c : Nat) : Int))
      have o5 := own_far o4 ⟨w.heap.size, 0, none⟩ (.int .i64 ((S + d.put.size - d.c : Nat) : Int)) hne
      have k5 := k4.setCell (p := ⟨w.heap.size, 0, none⟩) (Nat.le_refl _) (.int .i64 ((S + d.put.size - d.c : Nat) : Int))
      clear B4 E4 o4 k4 q4 f4 e40 e41 e42 l34 l4
      generalize w4.setCell ⟨w.heap.size, 0, none⟩ (.int .i64 ((S + d.put.size - d.c : Nat) : Int)) = W5 at *
      obtain ⟨wo, rfl⟩ : ∃ wo : World, wo = wr := ⟨_, rfl⟩
      go_loopw [57] (fun i wr => ∃ k : Nat, k ≤ ms.length ∧ i = .int .i64 k ∧ Blk wr w.heap.size 3 #[.int .i64 ((S + d.put.size - d.c : Nat) : Int)] ∧ Blk wr gE 37 #[.int .i64 (d.p : Int), .int .i64 (d.c : Int), .string d.put] ∧ wr.ownsRow w.heap.size 30 2 (.slice Ao ms.length co) ms.length (cellsOf mkc ((L.take k).map (mv1 d) ++ L.drop k)) ∧ Below w.heap.size w wr) (fun i _ => ms.length - (intOf i).toNat)
      case atStart => exact ⟨0, Nat.zero_le _, rfl, B5, E5, o5, k5⟩
      case round =>
        clear B5 E5 o5 k5
        obtain ⟨k, hk, rfl, B, E, hown, hbel⟩ := hrel
        by_cases hkt : k < ms.length
        · obtain ⟨g, cap, hv, hg, hgl⟩ := hown.form (by omega)
          injection hv with hv1 hv2 hv3
          subst hv1
          subst hv3
          have hkL : k < L.length := by rw [HLL.out]; exact hkt
          have hLk : ((L.take k).map (mv1 d) ++ L.drop k).length = ms.length := by rw [List.length_append, List.length_map, List.length_take, List.length_drop, ← HLL.out]; omega
          have hm0 := hL L[k] (List.getElem_mem hkL)
          have hx0 : wr.cell? ⟨g, k * 2, none⟩ = some (.int .i64 (L[k].at_ : Int)) := by
            have := hown.cellAt (k * 2 + 0) (by omega)
            rw [cellsOf_at mkc_len _ k (by omega) 0 (by omega), at_list L d k hkL] at this; exact this
          have hx1 : wr.cell? ⟨g, k * 2 + 1, none⟩ = some (.bool L[k].right) := by
            have := hown.cellAt (k * 2 + 1) (by omega)
            rw [cellsOf_at mkc_len _ k (by omega) 1 (by omega), at_list L d k hkL] at this; exact this
          have e0 : wr.cell? ⟨gE, 0, none⟩ = some (.int .i64 (d.p : Int)) := by rw [E.cell]; rfl
          have e1' : wr.cell? ⟨gE, 1, none⟩ = some (.int .i64 (d.c : Int)) := by rw [E.cell]; rfl
          have e2 : wr.cell? ⟨gE, 2, none⟩ = some (.string d.put) := by rw [E.cell]; rfl
          have lE := E.lt
          have MV := Lib.hid (fun W => moved_any d.p d.c d.put L[k].at_ L[k].right W (by omega) (by omega) (by omega) (by omega))
          go_wp2_with fail
          refine wp_region_mix 16 0 (fun w' => Below wr.heap.size wr w') (by kernel_rfl) (by kernel_rfl) (fun _ _ h1 h2 => bstep h1 h2) (Below.refl _ _) ?_
          intro ι F hne' hF
          have x0F : ∀ i, (F i).cell? ⟨g, k * 2, none⟩ = some (.int .i64 (L[k].at_ : Int)) := fun i => ((hF i).cell (p := ⟨g, k * 2, none⟩) hgl).trans hx0
          have x1F : ∀ i, (F i).cell? ⟨g, k * 2 + 1, none⟩ = some (.bool L[k].right) := fun i => ((hF i).cell (p := ⟨g, k * 2 + 1, none⟩) hgl).trans hx1
          have e0F : ∀ i, (F i).cell? ⟨gE, 0, none⟩ = some (.int .i64 (d.p : Int)) := fun i => ((hF i).cell (p := ⟨gE, 0, none⟩) lE).trans e0
          have e1F : ∀ i, (F i).cell? ⟨gE, 1, none⟩ = some (.int .i64 (d.c : Int)) := fun i => ((hF i).cell (p := ⟨gE, 1, none⟩) lE).trans e1'
          have e2F : ∀ i, (F i).cell? ⟨gE, 2, none⟩ = some (.string d.put) := fun i => ((hF i).cell (p := ⟨gE, 2, none⟩) lE).trans e2
          simp only [List.take_succ_cons, List.take_zero, List.drop_succ_cons, List.drop_zero]
          repeat (refine wpB_step (fun K hK => ?_); go_simp; first | (refine hK _ ?_; clear hK K) | (apply Exists.intro; refine ⟨fun _ => ?_, hK _ ?_⟩; (first | ((with_reducible refine (MV.out _).mono ?_); rintro e w1 ⟨rfl, hb⟩; exact ⟨rfl, hb⟩)); clear hK K))
          refine wpB_nil ?_
          intro w2 hw2 hI2
          clear x0F x1F e0F e1F e2F hF
          refine wpR_nil ?_
          have ho2' := own_below hown hI2
          have hx0' : w2.cell? ⟨g, k * 2, none⟩ = some (.int .i64 (L[k].at_ : Int)) := (hI2.cell (p := ⟨g, k * 2, none⟩) hgl).trans hx0
          have hf0' : w2.frozen? ⟨g, k * 2, none⟩ = false := ho2'.frozenAt (k * 2)
          have hgl2 : g < w2.heap.size := Nat.lt_of_lt_of_le hgl hI2.size
          have hst := (ho2'.stored (k * 2 + 0) (.int .i64 (mv d.p d.c d.put.size L[k].at_ L[k].right : Int))).1
          rw [cellsOf_set mkc_len _ k (by omega) 0 (by omega) _ (mv1 d L[k]) (by rw [at_list L d k hkL]; rfl), step_list L d k hkL] at hst
          have hg3 : w.heap.size ≠ g := by intro e; exact hne (by rw [e]; rfl)
          have hgE' : gE ≠ g := by intro e; exact hEo (by rw [e]; rfl)
          have B' := (B.below hI2 B.lt).far (p := ⟨g, k * 2, none⟩) hg3 (.int .i64 (mv d.p d.c d.put.size L[k].at_ L[k].right : Int))
          have E' := (E.below hI2 E.lt).far (p := ⟨g, k * 2, none⟩) hgE' (.int .i64 (mv d.p d.c d.put.size L[k].at_ L[k].right : Int))
          have k' := (bstep hbel hI2).setCell (p := ⟨g, k * 2, none⟩) hg (.int .i64 (mv d.p d.c d.put.size L[k].at_ L[k].right : Int))
          have HST := Lib.hid hst
          have HB' := Lib.hid B'
          have HE' := Lib.hid E'
          have HK' := Lib.hid k'
          clear hst B' E' k' ho2' hown B E hx0 hx1 e0 e1' e2
          go_wp2_with fail
          go_roundw
          case rel => first | exact ⟨k + 1, by omega, by go_num, HB'.out, HE'.out, HST.out, HK'.out⟩ | ((repeat apply Exists.intro); exact ⟨⟨k + 1, by omega, by go_num, HB'.out, HE'.out, HST.out, HK'.out⟩, rfl⟩)
          case measure => simp [intOf]; omega
        · obtain rfl : k = ms.length := by omega
          have e : (L.take ms.length).map (mv1 d) ++ L.drop ms.length = L.map (mv1 d) := by
            rw [List.take_of_length_le (by rw [HLL.out]; omega), List.drop_eq_nil_of_le (by rw [HLL.out]; omega), List.append_nil]
          rw [e] at hown
          go_wp2_with fail
          go_roundw
          case rel => first | exact ⟨j + 1, by omega, by go_num, by rw [HS.out]; exact B, by rw [HM.out]; exact hown, hbel⟩ | ((repeat apply Exists.intro); exact ⟨⟨j + 1, by omega, by go_num, by rw [HS.out]; exact B, by rw [HM.out]; exact hown, hbel⟩, rfl⟩)
          case measure => simp [intOf]; omega
    · obtain rfl : j = es.length := by omega
      have e : es.take es.length = es := List.take_length
      rw [e] at hown
      go_wp2_with fail
      go_ret2
      exact ⟨_, rfl, hown, hbel⟩
end Go.Proofs.Ytcgcakmpjeodfaa
