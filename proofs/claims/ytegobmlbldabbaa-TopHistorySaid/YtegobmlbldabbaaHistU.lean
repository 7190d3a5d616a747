/-
  The walk of the history's Deed, for undo and redo.
-/
import Derived.Test.YtegobmlbldabbaaHistD
namespace Go.Proofs.Ytegobmlbldabbaa
open Go.RowKit
set_option linter.unusedVariables false

def PopS (B R k : Nat) (cs : List Value) (i : List GE) (x : GE) (w : World) (e : Ending) (w' : World) : Prop :=
  e = .returned (.tuple #[.agg #[x.d, x.b], .bool true]) ∧ ∃ v', w.grownBy w' (some R) ∧ Blk w' R 153 (cs.set k v').toArray ∧
    (∀ w2, OffRow w2 B 173 2 (cs.getD k undef) (i ++ [x]).length (cellsOf gc (i ++ [x])) → OffRow w2 B 173 2 v' i.length (cellsOf gc i)) ∧ (∀ g, offBlock v' = some g → offBlock (cs.getD k undef) = some g)
theorem fr_slice {w : World} {M : Nat} {v : Value} {es : List Ed} (h : FR w M v es) : ∃ A c, v = .slice A es.length c ∧ es.length ≤ c ∧ c ≤ maxLen := own_slice h.1
theorem pop_undo {w : World} {B R M : Nat} {t : ByteArray} {vu vr : Value} {i rs : List GE} {x : GE} {f : Bool} (h : HQ w B R M #[.string t, vu, vr, .bool f] vu vr (i ++ [x]) rs) (hl : (i ++ [x]).length ≤ 1000) :
    Calls Try.prog 100 #[.pointer (some ⟨R, 1, none⟩)] w (fun e w' => e = .returned (.tuple #[.agg #[x.d, x.b], .bool true]) ∧ ∃ v', HQ w' B R M #[.string t, v', vr, .bool f] v' vr i rs ∧ w.grownBy w' (some R) ∧ FR w' M x.d x.g.done ∧ FR w' M x.b x.g.back) := by
  have hcs : ∀ y ∈ i ++ [x], (∃ A n c, y.d = .slice A n c) ∧ ∃ A n c, y.b = .slice A n c := by
    intro y hy
    have := h.fu y (List.mem_append.2 (.inl hy))
    obtain ⟨A1, c1, e1, _⟩ := fr_slice this.1
    obtain ⟨A2, c2, e2, _⟩ := fr_slice this.2
    exact ⟨⟨_, _, _, e1⟩, _, _, _, e2⟩
  refine (pop_any B R 1 _ _ _ _ vu (i ++ [x]) w (.inl rfl) h.hist rfl h.un hl hcs).mono ?_
  rintro e w' (⟨h0, _⟩ | ⟨i', x', v', he, rfl, hg, hb, h1, h2⟩)
  · simp at h0
  · have ei := List.append_inj' he (by simp)
    obtain rfl : i = i' := ei.1
    obtain rfl : x = x' := by simpa using ei.2
    have hE : Apart w (some R) := .inr ⟨R, _, _, rfl, h.hist, by decide⟩
    have hx := h.fu x (by simp)
    have hq := h.rehist hg hb
    refine ⟨rfl, v', ?_, hg, hx.1.apart hg hE, hx.2.apart hg hE⟩
    exact hq.fewer (h1 _ hq.un) h2 (by intro y hy; simp [hy])
theorem pop_redo {w : World} {B R M : Nat} {t : ByteArray} {vu vr : Value} {i rs : List GE} {x : GE} {f : Bool} (h : HQ w B R M #[.string t, vr, vu, .bool f] vu vr (i ++ [x]) rs) (hl : (i ++ [x]).length ≤ 1000) :
    Calls Try.prog 100 #[.pointer (some ⟨R, 2, none⟩)] w (fun e w' => e = .returned (.tuple #[.agg #[x.d, x.b], .bool true]) ∧ ∃ v', HQ w' B R M #[.string t, vr, v', .bool f] v' vr i rs ∧ w.grownBy w' (some R) ∧ FR w' M x.d x.g.done ∧ FR w' M x.b x.g.back) := by
  have hcs : ∀ y ∈ i ++ [x], (∃ A n c, y.d = .slice A n c) ∧ ∃ A n c, y.b = .slice A n c := by
    intro y hy
    have := h.fu y (List.mem_append.2 (.inl hy))
    obtain ⟨A1, c1, e1, _⟩ := fr_slice this.1
    obtain ⟨A2, c2, e2, _⟩ := fr_slice this.2
    exact ⟨⟨_, _, _, e1⟩, _, _, _, e2⟩
  refine (pop_any B R 2 _ _ _ _ vu (i ++ [x]) w (.inr rfl) h.hist rfl h.un hl hcs).mono ?_
  rintro e w' (⟨h0, _⟩ | ⟨i', x', v', he, rfl, hg, hb, h1, h2⟩)
  · simp at h0
  · have ei := List.append_inj' he (by simp)
    obtain rfl : i = i' := ei.1
    obtain rfl : x = x' := by simpa using ei.2
    have hE : Apart w (some R) := .inr ⟨R, _, _, rfl, h.hist, by decide⟩
    have hx := h.fu x (by simp)
    have hq := h.rehist hg hb
    refine ⟨rfl, v', ?_, hg, hx.1.apart hg hE, hx.2.apart hg hE⟩
    exact hq.fewer (h1 _ hq.un) h2 (by intro y hy; simp [hy])
theorem below_trans3 {a b c : World} (h : Below a.heap.size a b) (k : Below b.heap.size b c) : Below a.heap.size a c := bstep h k
theorem rev_drop (l : List Ed) (k : Nat) (h : k < l.length) : (l.drop k).reverse = (l.drop (k + 1)).reverse ++ [l[k]] := by
  rw [List.drop_eq_getElem_cons h, List.reverse_cons]
set_option maxRecDepth 100000 in
set_option maxHeartbeats 4000000 in
theorem deed_undo (B R n : Nat) (b0 : ByteArray) (h : Hs) (i0 : List Grp) (g0 : Grp) (w : World) (hm : HM w B R h) (hg : Good n b0 h) (hn : n ≤ 100) (hu0 : h.undo = i0 ++ [g0]) :
    Calls Try.prog 86 #[.pointer (some ⟨R, 0, none⟩), ddv .undo] w (DeedPost B R h .undo w) := by
  have hbl : Below w.heap.size w (w.alloc (.cells #[.int .i64 3, .int .i64 0, .int .i64 0, .string ⟨#[]⟩] 36)) := (Below.refl _ _).alloc (Nat.le_refl _) _
  have hD := Blk.new w 36 #[.int .i64 3, .int .i64 0, .int .i64 0, .string ⟨#[]⟩]
  have hm1 := hm.below hbl
  have hBs : B ≤ w.heap.size := by obtain ⟨M, vu, vr, us, rs, h1, _, _⟩ := hm; exact Nat.le_trans h1.mb h1.ms
  have hb1 : Below B w (w.alloc (.cells #[.int .i64 3, .int .i64 0, .int .i64 0, .string ⟨#[]⟩] 36)) := hbl.mono hBs
  have hk1 := TK.below hbl
  have hD0 : (w.alloc (.cells #[.int .i64 3, .int .i64 0, .int .i64 0, .string ⟨#[]⟩] 36)).cell? ⟨w.heap.size, 0, none⟩ = some (.int .i64 3) := by rw [hD.cell]; rfl
  clear hbl hm
  unfold ddv
  obtain ⟨M, vu, vr, us, rs, h1, hu, hr⟩ := hm1
  obtain ⟨t, us0, rs0, o⟩ := h
  simp only at h1 hu hr hu0
  subst hr
  rcases snocE us with rfl | ⟨i, x, rfl⟩
  · rw [hu0] at hu; simp at hu
  subst hu
  rw [List.map_append, List.map_cons, List.map_nil] at hg hu0
  have hg1 := good_undo hg
  have hfew := hg.few
  have hxl0 := hg.len x.g (by simp)
  have hxd : x.g.done.length ≤ n := hxl0.1
  have hxn : x.g.back.length ≤ n := by omega
  clear hxl0
  have hsz := hg.size
  simp only [List.length_append, List.length_map, List.length_cons, List.length_nil] at hfew hsz
  have hq := h1.toQ
  have HPOP := Lib.hid (pop_undo hq (by simp; omega))
  have HOK := Lib.hid hg1.2.1
  have e2 : deed ⟨t, i.map GE.g ++ [x.g], rs.map GE.g, o⟩ .undo = (⟨rn t x.g.back.reverse, i.map GE.g, rs.map GE.g ++ [x.g], false⟩, 0) := by simp [deed]
  unfold DeedPost
  rw [List.map_append, List.map_cons, List.map_nil, e2]
  have hl : w.heap.size < (w.alloc (.cells #[.int .i64 3, .int .i64 0, .int .i64 0, .string ⟨#[]⟩] 36)).heap.size := by simp
  have HB := Lib.hid hb1
  have HK := Lib.hid hk1
  have HH := Lib.hid hq.hist
  clear hq h1 hg hg1 e2 hu0 hb1 hk1 hD
  go_enter Try.func86, Try.ntmps86
  go_wp2_with (
    go_at_call 100
    refine HPOP.out.mono ?_
    rintro e w1 ⟨rfl, v', hq, hgw, hfd, hfb⟩
    have HK1 := Lib.hid (HK.out.trans (TK.hist HH.out hgw))
    have HB1 := Lib.hid (HB.out.grown hgw (by simp; omega) (fun g e => by injection e with e; subst e; exact hq.rb))
    obtain ⟨Ad, cd, ed, kd1, kd2⟩ := fr_slice hfd
    obtain ⟨Ab, cb, eb, kb1, kb2⟩ := fr_slice hfb
    rw [ed, eb])
  have hgb : w1.grownBy (w1.alloc (.cells #[.slice Ad x.g.done.length cd, .slice Ab x.g.back.length cb] 173)) none := World.grownBy_alloc _ _ _
  have hbg : Below w1.heap.size w1 (w1.alloc (.cells #[.slice Ad x.g.done.length cd, .slice Ab x.g.back.length cb] 173)) := (Below.refl _ _).alloc (Nat.le_refl _) _
  have G1 := Two.new w1 (.slice Ad x.g.done.length cd) (.slice Ab x.g.back.length cb) 173
  have GB := Blk.new w1 173 #[.slice Ad x.g.done.length cd, .slice Ab x.g.back.length cb]
  have hsg : (w1.alloc (.cells #[.slice Ad x.g.done.length cd, .slice Ab x.g.back.length cb] 173)).heap.size = w1.heap.size + 1 := by simp
  have hvn : ∀ k, offBlock vr = some k → k < w1.heap.size := fun k e => (hq.re.lt k e).2
  have hq1 := hq.below hbg
  have HKG := Lib.hid (HK1.out.trans (TK.below hbg))
  have HBG := Lib.hid (HB1.out.trans (hbg.mono (Nat.le_trans hq.mb hq.ms)))
  have hfb1 := hfb.above hgb (by simp)
  have hfd1 := hfd.above hgb (by simp)
  have HQ1 := Lib.hid hq1
  have HFB := Lib.hid hfb1
  have HFD := Lib.hid hfd1
  have HVN := Lib.hid hvn
  have HSG := Lib.hid hsg
  have HED := Lib.hid ed
  have HEB := Lib.hid eb
  clear hsg hq hq1 hfb hfd hfb1 hfd1 hbg hgb hgw HPOP HH HB HK HB1 HK1 hvn hl hD0 ed eb kd1 kd2 kb1
  generalize w1.alloc (.cells #[.slice Ad x.g.done.length cd, .slice Ab x.g.back.length cb] 173) = W at *
  generalize w1.heap.size = G at *
  unfold maxLen at kb2
  go_loopw [9, 10] (fun m i wr => ∃ k : Nat, k ≤ x.g.back.length ∧ i = .int .i64 ((k : Int) - 1) ∧ wr.ownsRow W.heap.size 34 3 m (x.g.back.drop k).reverse.length (edCells (x.g.back.drop k).reverse) ∧ Below W.heap.size W wr) (fun _ i _ => (intOf i + 1).toNat)
  case atStart => exact ⟨x.g.back.length, Nat.le_refl _, rfl, by rw [List.drop_length]; exact World.ownsRow_nil _ _ _ _, Below.refl _ _⟩
  case round =>
    obtain ⟨k, hk, rfl, hown, hbel⟩ := hrel
    obtain ⟨g0, g1, g2⟩ := G1.later hbel
    have hrow := (HFB.out.1).kept (grown_of_below hbel none) (by cases x.b.ownBlock <;> simp)
    rw [HEB.out] at hrow
    rcases Nat.eq_zero_or_pos k with rfl | hk0
    · go_wp2_with fail
      have hq := HQ1.out.below hbel
      have G2 := G1.later hbel
      simp only [List.drop_zero] at hown
      rw [HEB.out] at HFB
      rw [HED.out] at HFD
      clear g0 g1 g2 hrow hk
      obtain ⟨Am, cm, rfl, hm1, hm2⟩ := own_slice hown
      generalize hWW : wr = W1 at *
      have hvB : ∀ g, offBlock vr = some g → B ≤ g := fun g e => (hq.re.lt g e).1
      have hvR : some R ≠ offBlock vr := Ne.symm (off_blk_ne hq.re hq.hist (by decide))
      have hvG : some G ≠ offBlock vr := Ne.symm (by
        intro e
        exact (fun e => Nat.lt_irrefl _ (HVN.out _ e)) e)
      have hBW : B ≤ W1.heap.size := Nat.le_trans hq.mb hq.ms
      have hRW := hq.hist.lt
      obtain ⟨i0, hi, hz0, hz1, hz2⟩ := info_parts group_info
      refine wp_region_mix 6 2 (fun w' => W1.grownBy w' (offBlock vr)) (by kernel_rfl) (by kernel_rfl) (fun _ _ h1 h2 => h1.trans (grown_of_below h2 _)) (World.grownBy.refl _ _) ?_
      intro ι F hne' hF
      have r0F : ∀ k, (F k).cell? ⟨R, 2, none⟩ = some vr := fun k => by rw [(hq.hist.grown (hF k) hvR).cell]; rfl
      have g0F : ∀ k, (F k).cell? ⟨G, 0, none⟩ = some (.slice Ad x.g.done.length cd) := fun k => (World.cell?_of_block (a := ⟨G, 0, none⟩) ((hF k).block G G2.1 hvG)).trans G2.2.1
      have g1F : ∀ k, (F k).cell? ⟨G, 1, none⟩ = some (.slice Ab x.g.back.length cb) := fun k => (World.cell?_of_block (a := ⟨G, 1, none⟩) ((hF k).block G G2.1 hvG)).trans G2.2.2
      simp only [List.take_succ_cons, List.take_zero, List.drop_succ_cons, List.drop_zero]
      repeat (refine wpB_step (fun K hK => ?_); go_simp; first | (refine hK _ ?_; clear hK K) | (apply Exists.intro; refine ⟨fun _ => ?_, hK _ ?_⟩; (fail); clear hK K))
      refine wpB_nil ?_
      intro w2 hw2 hI2
      clear r0F g0F g1F hF
      (refine wpR_step (fun K hK => ?_); go_simp; refine hK _ _ ⟨hI2.trans (World.grownBy_alloc w2 _ _), ?_⟩; clear hK K)
      intro w3 hw3 hI3
      have hb3 : Below W1.heap.size W1 w3 := bstep (hw2.alloc hw2.size _) hw3
      have hq3 := hq.below hb3
      have hr3 := (Reads.new w2 [(.slice Ad x.g.done.length cd), (.slice Ab x.g.back.length cb)] 173 2 rfl).below hw3
      refine wpR_append_off _ rfl (.tmp 63) (.tmp 65) _ rfl B 173 i0 _ 2 48 Try.underlying151 hi hz0 hz1 hz2 rfl (by decide) vr rs.length (cellsOf gc rs) rfl hq3.re _ (some ⟨w2.heap.size, 0, none⟩) 1 1 [(.slice Ad x.g.done.length cd), (.slice Ab x.g.back.length cb)] rfl hr3 (by simp [Value.oneCell']) (by decide) (by unfold maxLen; omega) (by omega) (Nat.le_trans hBW hb3.size) ?_
      intro v4 w4 ho4 hg4 hat4
      refine ⟨hI3.trans hg4, ?_⟩
      intro w5 hw5 hI5
      refine wpR_nil ?_
      have hq4 := (hq3.swap.push (x := ⟨(.slice Ad x.g.done.length cd), (.slice Ab x.g.back.length cb), x.g⟩) hg4 ho4 hat4 ⟨(HFD.out.above (grown_of_below (below_trans3 hbel hb3) none) (by simp)), (HFB.out.above (grown_of_below (below_trans3 hbel hb3) none) (by simp))⟩).swap
      have hq5 := hq4.below hw5
      have hown5 := own_apart hown hI5 (off_apart hq.re)
      have hb5 := (HBG.out.trans (hbel.mono (Nat.le_trans HQ1.out.mb HQ1.out.ms))).grown hI5 hBW hvB
      have hk5 := (HKG.out.trans (TK.below hbel)).trans (TK.off hq.re hI5)
      obtain ⟨A5, c5, rfl, hc5, hc6⟩ := off_slice (ho4.below hw5)
      have r2 : w5.cell? ⟨R, 2, none⟩ = some vr := by rw [hq5.hist.cell]; rfl
      have f2 := hq5.hist.frozen 2
      have hR5 := hq5.hist.lt
      have hq6 := hq5.rehist (grown_set w5 ⟨R, 2, none⟩ (.slice A5 (rs.length + 1) c5)) (hq5.hist.set_ 2 (.slice A5 (rs.length + 1) c5))
      have hown6 := own_apart hown5 (grown_set w5 ⟨R, 2, none⟩ (.slice A5 (rs.length + 1) c5)) (.inr ⟨R, _, _, rfl, hq5.hist, by decide⟩)
      have HB6 := Lib.hid (hb5.setCell (p := ⟨R, 2, none⟩) hq.rb (.slice A5 (rs.length + 1) c5))
      have HK6 := Lib.hid (hk5.trans (TK.hist hq5.hist (grown_set w5 ⟨R, 2, none⟩ (.slice A5 (rs.length + 1) c5))))
      have HCH := Lib.hid (change_any R t v' (.slice A5 (rs.length + 1) c5) o (.slice Am x.g.back.reverse.length cm) x.g.back.reverse (w5.setCell ⟨R, 2, none⟩ (.slice A5 (rs.length + 1) c5)) hq6.hist (own_mono hown6 (Nat.zero_le _)) hsz HOK.out (by simp; omega))
      have HQ6 := Lib.hid hq6
      clear hq6 hown6 hq5 hq4 hown5 hb5 hk5 hq3 hr3 hb3 hI5 hI3 hI2 hw5 hw3 hw2 ho4 hg4 hat4 hq G2 hi hz0 hz1 hz2 hown
      simp only [List.length_reverse] at HCH ⊢
      go_wp2_with (
        go_at_call 101
        refine HCH.out.mono ?_
        rintro e w7 ⟨rfl, hg7, hb7⟩)
      have HQ7 := (HQ6.out.rehist hg7 hb7).toHM
      refine bodyPost_ret (v := .tuple #[.slice Am x.g.back.length cm, .int .i64 0]) (by simp [results, Try.results86, go_sem]) rfl ⟨_, rfl, ⟨_, v', _, i, _, HQ7, rfl, by simp⟩, HB6.out.grown hg7 (Nat.le_trans HQ6.out.mb HQ6.out.ms) (fun g e => by injection e with e; subst e; exact HQ6.out.rb), HK6.out.trans (TK.hist HQ6.out.hist hg7)⟩
    · obtain ⟨m, rfl⟩ : ∃ m, k = m + 1 := ⟨k - 1, by omega⟩
      have em : ((m + 1 : Nat) : Int) - 1 = (m : Int) := by omega
      rw [em]
      clear em
      have hm : m < x.g.back.length := by omega
      obtain ⟨b1, o1, rfl, hb1, x0, x1, x2⟩ := EdRow.at_ (Reads.of_own hrow) hm
      have HRD := Lib.hid (rev_drop x.g.back m hm)
      generalize x.g.back[m] = ed at *
      clear hrow
      go_wp2_with (at_builtin; refine wpList_appN rfl (.tmp 51) (.tmp 57) _ rfl W.heap.size 34 _ 3 32 Try.underlying46 edit_info rfl (by decide) _ _ _ rfl hown [.int .i64 ed.p, .int .i64 ed.c, .string ed.put] rfl _ rfl (by simp) rfl (by simp [Value.oneCell']) (by simp; omega) (by simp; omega) hbel.size ?_)
      intro v2 w2 hown2 hbel2 hgr
      replace hbel2 := hbel2 _ (Nat.le_refl _) _ hbel
      clear hgr
      go_wp2_with fail
      go_roundw
      case rel =>
        refine ⟨m, by omega, by go_num, ?_, hbel2⟩
        rw [HRD.out, edCells_snoc, List.length_append, List.length_reverse, List.length_drop]; exact hown2
      case measure => simp [intOf]
set_option maxRecDepth 100000 in
set_option maxHeartbeats 4000000 in
theorem deed_redo (B R n : Nat) (b0 : ByteArray) (h : Hs) (i0 : List Grp) (g0 : Grp) (w : World) (hm : HM w B R h) (hg : Good n b0 h) (hn : n ≤ 100) (hu0 : h.redo = i0 ++ [g0]) :
    Calls Try.prog 86 #[.pointer (some ⟨R, 0, none⟩), ddv .redo] w (DeedPost B R h .redo w) := by
  have hbl : Below w.heap.size w (w.alloc (.cells #[.int .i64 4, .int .i64 0, .int .i64 0, .string ⟨#[]⟩] 36)) := (Below.refl _ _).alloc (Nat.le_refl _) _
  have hD := Blk.new w 36 #[.int .i64 4, .int .i64 0, .int .i64 0, .string ⟨#[]⟩]
  have hm1 := hm.below hbl
  have hBs : B ≤ w.heap.size := by obtain ⟨M, vu, vr, us, rs, h1, _, _⟩ := hm; exact Nat.le_trans h1.mb h1.ms
  have hb1 : Below B w (w.alloc (.cells #[.int .i64 4, .int .i64 0, .int .i64 0, .string ⟨#[]⟩] 36)) := hbl.mono hBs
  have hk1 := TK.below hbl
  have hD0 : (w.alloc (.cells #[.int .i64 4, .int .i64 0, .int .i64 0, .string ⟨#[]⟩] 36)).cell? ⟨w.heap.size, 0, none⟩ = some (.int .i64 4) := by rw [hD.cell]; rfl
  clear hbl hm
  unfold ddv
  obtain ⟨M, vu, vr, us, rs, h1, hu, hr⟩ := hm1
  obtain ⟨t, us0, rs0, o⟩ := h
  simp only at h1 hu hr hu0
  subst hu
  rcases snocE rs with rfl | ⟨i, x, rfl⟩
  · rw [hu0] at hr; simp at hr
  subst hr
  rw [List.map_append, List.map_cons, List.map_nil] at hg hu0
  have hg1 := good_redo hg
  have hfew := hg.few
  have hxl0 := hg.len x.g (by simp)
  have hxd : x.g.done.length ≤ n := hxl0.1
  clear hxl0
  have hsz := hg.size
  simp only [List.length_append, List.length_map, List.length_cons, List.length_nil] at hfew hsz
  have hq := h1.toQ
  have HPOP := Lib.hid (pop_redo hq.swap (by simp; omega))
  have HOK := Lib.hid hg1.2.1
  have e2 : deed ⟨t, us.map GE.g, i.map GE.g ++ [x.g], o⟩ .redo = (⟨rn t x.g.done, us.map GE.g ++ [x.g], i.map GE.g, false⟩, 0) := by simp [deed]
  unfold DeedPost
  rw [List.map_append, List.map_cons, List.map_nil, e2]
  have hl : w.heap.size < (w.alloc (.cells #[.int .i64 4, .int .i64 0, .int .i64 0, .string ⟨#[]⟩] 36)).heap.size := by simp
  have HB := Lib.hid hb1
  have HK := Lib.hid hk1
  have HH := Lib.hid hq.hist
  clear hq h1 hg hg1 e2 hu0 hb1 hk1 hD
  go_enter Try.func86, Try.ntmps86
  go_wp2_with (
    go_at_call 100
    refine HPOP.out.mono ?_
    rintro e w1 ⟨rfl, v', hq, hgw, hfd, hfb⟩
    have HK1 := Lib.hid (HK.out.trans (TK.hist HH.out hgw))
    have HB1 := Lib.hid (HB.out.grown hgw (by simp; omega) (fun g e => by injection e with e; subst e; exact hq.rb))
    obtain ⟨Ad, cd, ed, kd1, kd2⟩ := fr_slice hfd
    obtain ⟨Ab, cb, eb, kb1, kb2⟩ := fr_slice hfb
    rw [ed, eb])
  have hgb : w1.grownBy (w1.alloc (.cells #[.slice Ad x.g.done.length cd, .slice Ab x.g.back.length cb] 173)) none := World.grownBy_alloc _ _ _
  have hbg : Below w1.heap.size w1 (w1.alloc (.cells #[.slice Ad x.g.done.length cd, .slice Ab x.g.back.length cb] 173)) := (Below.refl _ _).alloc (Nat.le_refl _) _
  have hRG0 := hq.hist.lt
  have G1 := Two.new w1 (.slice Ad x.g.done.length cd) (.slice Ab x.g.back.length cb) 173
  have hvn : ∀ k, offBlock vu = some k → k < w1.heap.size := fun k e => (hq.re.lt k e).2
  have hq1 := hq.below hbg
  have HKG := Lib.hid (HK1.out.trans (TK.below hbg))
  have HBG := Lib.hid (HB1.out.trans (hbg.mono (Nat.le_trans hq.mb hq.ms)))
  have HFB := Lib.hid (hfb.above hgb (by simp))
  have HFD := Lib.hid (hfd.above hgb (by simp))
  rw [eb] at HFB
  rw [ed] at HFD
  clear hq hfb hfd hbg hgb hgw HPOP HH HB HK HB1 HK1 hl hD0 ed eb kd1 kb1
  generalize w1.alloc (.cells #[.slice Ad x.g.done.length cd, .slice Ab x.g.back.length cb] 173) = W1 at *
  generalize w1.heap.size = G at *
  have hRG : R ≠ G := by omega
  have hq := hq1
  have G2 := G1
  clear hq1
  have hvB : ∀ g, offBlock vu = some g → B ≤ g := fun g e => (hq.re.lt g e).1
  have hvR : some R ≠ offBlock vu := Ne.symm (off_blk_ne hq.re hq.hist (by decide))
  have hvG : some G ≠ offBlock vu := Ne.symm (by
    intro e
    exact (fun e => Nat.lt_irrefl _ (hvn _ e)) e)
  have hBW : B ≤ W1.heap.size := Nat.le_trans hq.mb hq.ms
  have hRW := hq.hist.lt
  obtain ⟨i0, hi, hz0, hz1, hz2⟩ := info_parts group_info
  refine wp_region_mix 6 2 (fun w' => W1.grownBy w' (offBlock vu)) (by kernel_rfl) (by kernel_rfl) (fun _ _ h1 h2 => h1.trans (grown_of_below h2 _)) (World.grownBy.refl _ _) ?_
  intro ι F hne' hF
  have r0F : ∀ k, (F k).cell? ⟨R, 1, none⟩ = some vu := fun k => by rw [(hq.hist.grown (hF k) hvR).cell]; rfl
  have g0F : ∀ k, (F k).cell? ⟨G, 0, none⟩ = some (.slice Ad x.g.done.length cd) := fun k => (World.cell?_of_block (a := ⟨G, 0, none⟩) ((hF k).block G G2.1 hvG)).trans G2.2.1
  have g1F : ∀ k, (F k).cell? ⟨G, 1, none⟩ = some (.slice Ab x.g.back.length cb) := fun k => (World.cell?_of_block (a := ⟨G, 1, none⟩) ((hF k).block G G2.1 hvG)).trans G2.2.2
  simp only [List.take_succ_cons, List.take_zero, List.drop_succ_cons, List.drop_zero]
  repeat (refine wpB_step (fun K hK => ?_); go_simp; first | (refine hK _ ?_; clear hK K) | (apply Exists.intro; refine ⟨fun _ => ?_, hK _ ?_⟩; (fail); clear hK K))
  refine wpB_nil ?_
  intro w2 hw2 hI2
  clear r0F g0F g1F hF
  (refine wpR_step (fun K hK => ?_); go_simp; refine hK _ _ ⟨hI2.trans (World.grownBy_alloc w2 _ _), ?_⟩; clear hK K)
  intro w3 hw3 hI3
  have hb3 : Below W1.heap.size W1 w3 := bstep (hw2.alloc hw2.size _) hw3
  have hq3 := hq.below hb3
  have hr3 := (Reads.new w2 [(.slice Ad x.g.done.length cd), (.slice Ab x.g.back.length cb)] 173 2 rfl).below hw3
  refine wpR_append_off _ rfl (.tmp 87) (.tmp 89) _ rfl B 173 i0 _ 2 48 Try.underlying151 hi hz0 hz1 hz2 rfl (by decide) vu us.length (cellsOf gc us) rfl hq3.re _ (some ⟨w2.heap.size, 0, none⟩) 1 1 [(.slice Ad x.g.done.length cd), (.slice Ab x.g.back.length cb)] rfl hr3 (by simp [Value.oneCell']) (by decide) (by unfold maxLen; omega) (by omega) (Nat.le_trans hBW hb3.size) ?_
  intro v4 w4 ho4 hg4 hat4
  refine ⟨hI3.trans hg4, ?_⟩
  intro w5 hw5 hI5
  refine wpR_nil ?_
  have hq4 := (hq3.swap.push (x := ⟨(.slice Ad x.g.done.length cd), (.slice Ab x.g.back.length cb), x.g⟩) hg4 ho4 hat4 ⟨(HFD.out.above (grown_of_below hb3 none) (by simp)), (HFB.out.above (grown_of_below hb3 none) (by simp))⟩).swap
  have hq5 := hq4.below hw5
  have hb5 := HBG.out.grown hI5 hBW hvB
  have hk5 := HKG.out.trans (TK.off hq.re hI5)
  obtain ⟨A5, c5, rfl, hc5, hc6⟩ := off_slice (ho4.below hw5)
  have r2 : w5.cell? ⟨R, 1, none⟩ = some vu := by rw [hq5.hist.cell]; rfl
  have f2 := hq5.hist.frozen 1
  have hR5 := hq5.hist.lt
  have G5 : w5.cell? ⟨G, 0, none⟩ = some (.slice Ad x.g.done.length cd) := (World.cell?_of_block (a := ⟨G, 0, none⟩) (hI5.block G G2.1 hvG)).trans G2.2.1
  have hG5 : G < w5.heap.size := Nat.lt_of_lt_of_le G2.1 hI5.size
  have hGR : G ≠ R := fun e => hRG e.symm
  have hq6 := hq5.rehist (grown_set w5 ⟨R, 1, none⟩ (.slice A5 (us.length + 1) c5)) (hq5.hist.set_ 1 (.slice A5 (us.length + 1) c5))
  have hown6 := (hq6.fu ⟨.slice Ad x.g.done.length cd, .slice Ab x.g.back.length cb, x.g⟩ (by simp)).1.1
  have HB6 := Lib.hid (hb5.setCell (p := ⟨R, 1, none⟩) hq.rb (.slice A5 (us.length + 1) c5))
  have HK6 := Lib.hid (hk5.trans (TK.hist hq5.hist (grown_set w5 ⟨R, 1, none⟩ (.slice A5 (us.length + 1) c5))))
  have HCH := Lib.hid (change_any R t (.slice A5 (us.length + 1) c5) v' o (.slice Ad x.g.done.length cd) x.g.done (w5.setCell ⟨R, 1, none⟩ (.slice A5 (us.length + 1) c5)) hq6.hist hown6 hsz HOK.out (by omega))
  have HQ6 := Lib.hid hq6
  clear hq6 hown6 hq5 hq4 hb5 hk5 hq3 hr3 hb3 hI5 hI3 hI2 hw5 hw3 hw2 ho4 hg4 hat4 hq G2 hi hz0 hz1 hz2
  go_wp2_with (
    go_at_call 101
    refine HCH.out.mono ?_
    rintro e w7 ⟨rfl, hg7, hb7⟩)
  have HQ7 := (HQ6.out.rehist hg7 hb7).swap.toHM
  refine bodyPost_ret (v := .tuple #[.slice Ad x.g.done.length cd, .int .i64 0]) (by simp [results, Try.results86, go_sem]) rfl ⟨_, rfl, ⟨_, _, v', _, i, HQ7, by simp, rfl⟩, HB6.out.grown hg7 (Nat.le_trans HQ6.out.mb HQ6.out.ms) (fun g e => by injection e with e; subst e; exact HQ6.out.rb), HK6.out.trans (TK.hist HQ6.out.hist hg7)⟩
end Go.Proofs.Ytegobmlbldabbaa
