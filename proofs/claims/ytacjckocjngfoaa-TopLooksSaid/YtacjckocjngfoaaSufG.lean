/-
  The walk of suffix.Find.
-/
import Derived.Test.YtacjckocjngfoaaSufE
import Derived.Test.YtacjckocjngfoaaFndP
import Derived.BigQuiet
namespace Go.Proofs.Ytacjckocjngfoaa
open Go.RowKit Go.Shelf Go.Sort
set_option linter.unusedVariables false
set_option linter.unusedSimpArgs false

theorem ext_tail (s : ByteArray) (a : Nat) : (s.extract a s.size).toList = s.data.toList.drop a := by
  rw [ByteArray.toList_eq, ByteArray.data_extract, Array.toList_extract, List.extract]
  exact List.take_of_length_le (by simp)
theorem findFn_any (s f : ByteArray) (o : Nat → Nat) (gt go_ gf g : Nat) (W : World) (c0 : W.cell? ⟨gt, 0, none⟩ = some (.string s)) (c1 : W.cell? ⟨go_, 0, none⟩ = some (.slice (some ⟨g, 0, none⟩) s.size s.size)) (c2 : W.cell? ⟨gf, 0, none⟩ = some (.string f))
    (i : Nat) (hi : i < s.size) (hs : s.size ≤ 1000) (ci : W.cell? ⟨g, i, none⟩ = some (.int .i64 (o i : Int))) (ho : o i < s.size) :
    Calls Try.prog 23 #[.int .i64 (i : Int), .pointer (some ⟨gt, 0, none⟩), .pointer (some ⟨go_, 0, none⟩), .pointer (some ⟨gf, 0, none⟩)] W fun e w' => e = .returned (.bool (decide (¬ s.data.toList.drop (o i) < f.data.toList))) ∧ Gr.Grew W w' := by
  generalize o i = oi at *
  have i0 : (0 : Int) ≤ (i : Int) := by omega
  have i1 : (i : Int) < (s.size : Int) := by omega
  have i2 : (0 : Int) ≤ (oi : Int) := by omega
  have i3 : (oi : Int) ≤ (s.size : Int) := by omega
  have HR : Hid ((!(Op.bytesLess (s.extract oi s.size).toList f.toList)) = decide (¬ s.data.toList.drop oi < f.data.toList)) := Lib.hid (by rw [bytesLess_eq, ext_tail, ByteArray.toList_eq, decide_not])
  go_enter Try.func23, Try.ntmps23
  go_wp2_with fail
  go_quiet (fail)
  go_wp2_with fail
  go_ret
  exact ⟨by rw [← HR.out]; rfl, Gr.Grew.drewN _ _⟩
theorem values_any (A : Option Addr) (m c : Nat) (w : World) :
    Calls Try.prog 26 #[.slice A m c] w fun e w' => e = .returned (.func (.func 39) #[] #[.pointer (some ⟨w.heap.size, 0, none⟩)]) ∧ w' = w.alloc (.cells #[.slice A m c] 22) :=
  (callsIn_wide (n := 1)).1 (values_in Fence.wide 1 trivial rfl A m c w)
theorem own_low {w : World} {b b' : Nat} {e : TypeId} {size n : Nat} {v : Value} {xs : List Value} (h : w.ownsRow b e size v n xs) (hb : b' ≤ b) : w.ownsRow b' e size v n xs := by
  refine ⟨h.1, ?_⟩
  rcases h.2 with h2 | ⟨g, cap, cur, h3, h4, h5⟩
  · exact .inl h2
  · exact .inr ⟨g, cap, cur, h3, Nat.le_trans hb h4, h5⟩
def occF (S F : List UInt8) : List Nat := (List.range S.length).filter fun i => (S.drop i).take F.length == F
def FindPost (S F : List UInt8) (w : World) (e : Ending) (w' : World) : Prop := ∃ v : Value, e = .returned (.tuple #[v, .int .i64 0]) ∧ w'.ownsRow w.heap.size 3 1 v (occF S F).length (((occF S F).map fun x : Nat => (x : Int)).map encI) ∧ Below w.heap.size w w'
theorem pairwise_natI {l : List Nat} (h : l.Pairwise (· < ·)) : (l.map fun x : Nat => (x : Int)).Pairwise (· < ·) := by
  rw [List.pairwise_map]
  exact h.imp fun {a b} hab => by omega
theorem occF_pairwise (S F : List UInt8) : (occF S F).Pairwise (· < ·) := List.Pairwise.sublist List.filter_sublist List.pairwise_lt_range
theorem mem_occF (S F : List UInt8) (i : Nat) : i ∈ occF S F ↔ i < S.length ∧ StartsAt S i F := by
  unfold occF StartsAt
  rw [List.mem_filter, List.mem_range, beq_iff_eq]
/-- The ends side by side, sorted: where it stands. -/
theorem asc_side {S F : List UInt8} {n : Nat} (hS : S.length = n) {o p : Nat → Nat} (h : EndsUp S n o p) (lo hi : Nat) (hhi : hi ≤ n) (hside : ∀ k, k < n → (StartsAt S (o k) F ↔ lo ≤ k ∧ k < hi)) :
    asc ((List.range (hi - lo)).map fun i => ((o (lo + i) : Nat) : Int)) = (occF S F).map fun x : Nat => (x : Int) := by
  have hnd : ((List.range (hi - lo)).map fun i => ((o (lo + i) : Nat) : Int)).Nodup := by
    rw [List.nodup_iff_pairwise_ne, List.pairwise_map]
    refine List.Pairwise.imp_of_mem (fun {x y} hx hy hxy e => ?_) (List.nodup_iff_pairwise_ne.1 (List.nodup_range (n := hi - lo)))
    rw [List.mem_range] at hx hy
    have e2 : o (lo + x) = o (lo + y) := by omega
    have h1 := (h.1 (lo + x) (by omega)).2.2.1
    have h2 := (h.1 (lo + y) (by omega)).2.2.1
    rw [e2, h2] at h1
    omega
  refine asc_unique _ _ (asc_pairwise hnd) (pairwise_natI (occF_pairwise S F)) fun x => ?_
  rw [mem_asc, List.mem_map, List.mem_map]
  constructor
  · rintro ⟨i, hi', rfl⟩
    rw [List.mem_range] at hi'
    refine ⟨o (lo + i), ?_, rfl⟩
    rw [mem_occF, hS]
    exact ⟨(h.1 (lo + i) (by omega)).1, (hside (lo + i) (by omega)).2 ⟨by omega, by omega⟩⟩
  · rintro ⟨j, hj, rfl⟩
    rw [mem_occF, hS] at hj
    obtain ⟨p1, p2, p3, p4⟩ := h.1 j hj.1
    have := (hside (p j) p2).1 (by rw [p4]; exact hj.2)
    refine ⟨p j - lo, by rw [List.mem_range]; omega, ?_⟩
    rw [show lo + (p j - lo) = p j by omega, p4]
theorem reads_of_rowIs {W : World} {g n lo m : Nat} {o : Nat → Nat} (h : W.rowIs g 3 n (fun k => .int .i64 (o k : Int))) (hm : lo + m ≤ n) :
    Reads W W.heap.size 1 (some ⟨g, lo, none⟩) ((List.range m).map fun i => ((o (lo + i) : Nat) : Int)).length (((List.range m).map fun i => ((o (lo + i) : Nat) : Int)).map (.int .i64)) := by
  refine ⟨by simp, fun hp => ⟨_, rfl, h.lt, fun j u hu => ?_⟩⟩
  rw [add_plain]
  have hj : j < m := by
    have := (List.getElem?_eq_some_iff.1 hu).1
    simpa using this
  rw [h.cell (show lo + j < n by omega), ← hu]
  simp [hj]
set_option maxRecDepth 100000 in
set_option maxHeartbeats 8000000 in
theorem sufFind_any (s f : ByteArray) (hs : s.size ≤ 600) (hf0 : 0 < f.size) (hf : f.size ≤ 20) (w : World) :
    Calls Try.prog 9 #[.string s, .string f] w (FindPost s.data.toList f.data.toList w) := by
  have SA := Lib.hid (fun W => sortedA_any s (by omega) W)
  have b1 : decide ((600 : Int) < (s.size : Int)) = false := decide_eq_false (by omega)
  have b2 : decide ((20 : Int) < (f.size : Int)) = false := decide_eq_false (by omega)
  have b3 : (f.toList == ([] : List UInt8)) = false := by
    rw [beq_eq_false_iff_ne]; intro e
    have := congrArg List.length e
    rw [ByteArray.toList_eq] at this
    have h4 : f.data.toList.length = f.size := by simp
    rw [List.length_nil] at this
    omega
  go_enter Try.func9, Try.ntmps9
  go_wp2_with fail
  refine (SA.out _).mono ?_
  rintro e w1 ⟨g, o, p, rfl, hg, HE, RG, HB⟩
  have BT := ((Blk.new w 9 #[.string s]).alloc (.cells #[.string f] 9)).below HB (by simp; omega)
  have BF := (Blk.new (w.alloc (.cells #[.string s] 9)) 9 #[.string f]).below HB (by simp)
  rw [World.size_alloc] at BF
  have HBB := bstep ((Below.refl w.heap.size w).alloc (Nat.le_refl _) (.cells #[.string s] 9) |>.alloc (by simp) (.cells #[.string f] 9)) HB
  have l1 : w.heap.size + 2 ≤ g := by simp at hg; omega
  have HEE := Lib.hid HE
  clear HB HE hg SA b1 b2 b3
  go_wp2_with fail
  have BT2 := BT.alloc (.cells #[.slice (some ⟨g, 0, none⟩) s.size s.size] 22)
  have BF2 := BF.alloc (.cells #[.slice (some ⟨g, 0, none⟩) s.size s.size] 22)
  have BO2 := Blk.new w1 22 #[.slice (some ⟨g, 0, none⟩) s.size s.size]
  have RG2 := RG.alloc (.cells #[.slice (some ⟨g, 0, none⟩) s.size s.size] 22)
  have HB2 := HBB.alloc HBB.size (.cells #[.slice (some ⟨g, 0, none⟩) s.size s.size] 22)
  have l2 := RG.lt
  clear BT BF RG HBB
  generalize w1.alloc (.cells #[.slice (some ⟨g, 0, none⟩) s.size s.size] 22) = w2 at *
  generalize w1.heap.size = go_ at *
  have eg : ∀ args w, (callFunc 23 args).run Try.prog w = .ok (.enter 23 args) w := enters_of Try.func23 (by kernel_rfl) rfl
  have hmono : ∀ a b, a ≤ b → b < s.size → decide (¬ s.data.toList.drop (o a) < f.data.toList) = true → decide (¬ s.data.toList.drop (o b) < f.data.toList) = true := by
    intro a b hab hb h1
    rw [decide_eq_true_eq] at h1 ⊢
    intro h2
    rcases ends_le HEE.out hab hb with h3 | h3
    · rw [h3] at h1; exact h1 h2
    · exact h1 (List.lt_trans h3 h2)
  have SR := Any.sort_Search sortSearchL 23 #[.pointer (some ⟨w.heap.size, 0, none⟩), .pointer (some ⟨go_, 0, none⟩), .pointer (some ⟨w.heap.size + 1, 0, none⟩)] s.size (fun i => decide (¬ s.data.toList.drop (o i) < f.data.toList)) w2 eg (by omega)
    (fun m os i hi => by
      have hV : Below w2.heap.size w2 (grow (w2.drewN m) os) := Gr.Grew.below ⟨m, os, rfl⟩
      exact findFn_any s f o w.heap.size go_ (w.heap.size + 1) g _ ((BT2.below hV BT2.lt).cell 0) ((BO2.below hV BO2.lt).cell 0) ((BF2.below hV BF2.lt).cell 0) i hi (by omega) ((rowIs_below RG2 hV RG2.lt).cell hi) (HEE.out.1 i hi).1) hmono
  obtain ⟨lo, hlo1, hlo2, hlo3⟩ := countP_cut (fun i => decide (¬ s.data.toList.drop (o i) < f.data.toList)) s.size hmono
  rw [hlo2] at SR
  have SRH := Lib.hid SR
  have LO3 : Hid (∀ k, k < s.size → (¬ s.data.toList.drop (o k) < f.data.toList ↔ lo ≤ k)) := Lib.hid (fun k hk => by have := hlo3 k hk; rwa [decide_eq_true_eq] at this)
  clear SR hmono eg hlo2 hlo3
  refine SRH.out.mono ?_
  rintro e w3 ⟨rfl, hw3⟩
  have hb3 : Below w2.heap.size w2 w3 := Gr.Grew.below hw3
  have BT3 := BT2.below hb3 BT2.lt
  have BF3 := BF2.below hb3 BF2.lt
  have BO3 := BO2.below hb3 BO2.lt
  have RG3 := rowIs_below RG2 hb3 RG2.lt
  have HB3 := bstep HB2 hb3
  clear BT2 BF2 BO2 RG2 HB2 hw3 hb3 SRH
  have HH := fun (x : ByteArray) (W : World) => Any.strings_HasPrefix hasPrefixL x f W
  have HPX := Lib.hid HH
  clear HH
  go_wp2_with fail
  go_loopw [8] (fun vh W => ∃ hi : Nat, lo ≤ hi ∧ hi ≤ s.size ∧ vh = .int .i64 (hi : Int) ∧ (∀ k, lo ≤ k → k < hi → StartsAt s.data.toList (o k) f.data.toList) ∧ Blk W w.heap.size 9 #[.string s] ∧ Blk W (w.heap.size + 1) 9 #[.string f] ∧ Blk W go_ 22 #[.slice (some ⟨g, 0, none⟩) s.size s.size] ∧ W.rowIs g 3 s.size (fun k => .int .i64 (o k : Int)) ∧ Below w.heap.size w W) (fun vh _ => s.size - (intOf vh).toNat)
  case atStart => exact ⟨lo, Nat.le_refl _, hlo1, rfl, fun k h1 h2 => by omega, BT3, BF3, BO3, RG3, HB3⟩
  case round =>
    clear BT3 BF3 BO3 RG3 HB3
    obtain ⟨hi, h1, h2, rfl, hall, BT3, BF3, BO3, RG3, HB3⟩ := hrel
    have c0 : wr.cell? ⟨w.heap.size, 0, none⟩ = some (.string s) := BT3.cell 0
    have c1 : wr.cell? ⟨go_, 0, none⟩ = some (.slice (some ⟨g, 0, none⟩) s.size s.size) := BO3.cell 0
    have c2 : wr.cell? ⟨w.heap.size + 1, 0, none⟩ = some (.string f) := BF3.cell 0
    have HAL := Lib.hid hall
    clear hall
    by_cases hlt : hi < s.size
    · have i0 : (0 : Int) ≤ (hi : Int) := by omega
      have i1 : (hi : Int) < (s.size : Int) := by omega
      have a1 := RG3.cell hlt
      have o1 := (HEE.out.1 hi hlt).1
      obtain ⟨oi, hoi⟩ : ∃ oi, o hi = oi := ⟨_, rfl⟩
      rw [hoi] at a1 o1
      have HOI := Lib.hid hoi
      clear hoi
      have i2 : (0 : Int) ≤ (oi : Int) := by omega
      have i3 : (oi : Int) ≤ (s.size : Int) := by omega
      obtain ⟨hb, hhb⟩ : ∃ b, Lib.hasPrefix (s.data.toList.drop oi) f.data.toList = b := ⟨_, rfl⟩
      have HBI : Hid (hb = true ↔ StartsAt s.data.toList oi f.data.toList) := Lib.hid (by rw [← hhb]; unfold StartsAt Lib.hasPrefix; rw [List.isPrefixOf_iff_prefix, List.prefix_iff_eq_take]; exact ⟨fun e => e.symm, fun e => e.symm⟩)
      have CP : Hid (∀ W, Calls Try.prog 24 #[.string (s.extract oi s.size), .string f] W fun e w' => e = .returned (.bool hb) ∧ W = w') := by
        refine Lib.hid fun W => (HPX.out _ W).mono ?_
        rintro e w' ⟨rfl, rfl⟩
        have e1 : (s.extract oi s.size).data.toList = s.data.toList.drop oi := by rw [← ByteArray.toList_eq, ext_tail]
        rw [e1, hhb]
        exact ⟨rfl, rfl⟩
      clear hhb HPX
      rcases hb with _ | _
      · go_wp2_with fail
        go_quiet ((go_at_call 24; exact Calls.quiet_of_same ((CP.out _).mono fun e w' h => ⟨h.1, h.2.symm⟩)))
        go_wp2_with fail
        have RZ : (wr.drewN nq).rowIs g 3 s.size (fun k => .int .i64 (o k : Int)) := RG3
        have HBZ := below_drewN HB3 nq
        have ASC : Hid (asc ((List.range (hi - lo)).map fun i => ((o (lo + i) : Nat) : Int)) = (occF s.data.toList f.data.toList).map fun x : Nat => (x : Int)) := Lib.hid (asc_side (by simp) HEE.out lo hi h2 (find_side HEE.out lo hi LO3.out h1 h2 HAL.out (fun _ hst => by rw [HOI.out] at hst; have := HBI.out.2 hst; cases this)))
        clear a1 c0 c1 c2 BT3 BF3 BO3 RG3 HB3
        generalize wr.drewN nq = wz at *
        refine (values_any _ _ _ _).mono ?_
        rintro e w5 ⟨rfl, rfl⟩
        go_wp2_with fail
        have hxl : ((List.range (hi - lo)).map fun i => ((o (lo + i) : Nat) : Int)).length = hi - lo := by simp
        have hSQ := sorted_seq wz.heap.size wz (wz.alloc (.cells #[.slice (some ⟨g, lo, none⟩) (hi - lo) (s.size - lo)] 22)) (some ⟨g, lo, none⟩) (s.size - lo) ((List.range (hi - lo)).map fun i => ((o (lo + i) : Nat) : Int)) (reads_of_rowIs RZ (by omega)) ((Below.refl _ _).alloc (Nat.le_refl _) _) (by simp) (by rw [hxl]; exact (Blk.new wz 22 #[.slice (some ⟨g, lo, none⟩) (hi - lo) (s.size - lo)]).cell 0) (by rw [hxl]; omega)
        refine hSQ.mono ?_
        rintro e w6 ⟨v, rfl, k1, k2⟩
        rw [ASC.out] at k1
        go_wp2_with fail
        go_ret2
        have hlen : (hi - lo) = (occF s.data.toList f.data.toList).length := by
          have := congrArg List.length ASC.out
          rw [asc_len, hxl, List.length_map] at this
          exact this
        rw [hxl, hlen] at k1
        exact ⟨v, rfl, own_low k1 (by have := HBZ.size; simp; omega), bstep (HBZ.alloc HBZ.size _) k2⟩
      · go_wp2_with fail
        go_quiet ((go_at_call 24; exact Calls.quiet_of_same ((CP.out _).mono fun e w' h => ⟨h.1, h.2.symm⟩)))
        go_wp2_with fail
        exact ⟨⟨hi + 1, by omega, by omega, by go_num, fun k k1 k2 => by
          rcases Nat.lt_or_ge k hi with r | r
          · exact HAL.out k k1 r
          · have : k = hi := by omega
            subst this; rw [HOI.out]; exact HBI.out.1 (by first | trivial | rfl), BT3.drewN nq, BF3.drewN nq, BO3.drewN nq, RG3, below_drewN HB3 nq⟩, by simp [intOf]; omega⟩
    · obtain rfl : hi = s.size := by omega
      have b1 : decide ((s.size : Int) < (s.size : Int)) = false := decide_eq_false (by omega)
      have ASC : Hid (asc ((List.range (s.size - lo)).map fun i => ((o (lo + i) : Nat) : Int)) = (occF s.data.toList f.data.toList).map fun x : Nat => (x : Int)) := Lib.hid (asc_side (by simp) HEE.out lo s.size h2 (find_side HEE.out lo s.size LO3.out h1 h2 HAL.out (fun h _ => absurd h (by omega))))
      rcases Nat.lt_or_ge lo s.size with hls | hls
      · go_wp2_with fail
        go_quiet (fail)
        go_wp2_with fail
        have RZ : (wr.drewN nq).rowIs g 3 s.size (fun k => .int .i64 (o k : Int)) := RG3
        have HBZ := below_drewN HB3 nq
        clear c0 c1 c2 BT3 BF3 BO3 RG3 HB3
        generalize wr.drewN nq = wz at *
        refine (values_any _ _ _ _).mono ?_
        rintro e w5 ⟨rfl, rfl⟩
        go_wp2_with fail
        have hxl : ((List.range (s.size - lo)).map fun i => ((o (lo + i) : Nat) : Int)).length = s.size - lo := by simp
        have hSQ := sorted_seq wz.heap.size wz (wz.alloc (.cells #[.slice (some ⟨g, lo, none⟩) (s.size - lo) (s.size - lo)] 22)) (some ⟨g, lo, none⟩) (s.size - lo) ((List.range (s.size - lo)).map fun i => ((o (lo + i) : Nat) : Int)) (reads_of_rowIs RZ (by omega)) ((Below.refl _ _).alloc (Nat.le_refl _) _) (by simp) (by rw [hxl]; exact (Blk.new wz 22 #[.slice (some ⟨g, lo, none⟩) (s.size - lo) (s.size - lo)]).cell 0) (by rw [hxl]; omega)
        refine hSQ.mono ?_
        rintro e w6 ⟨v, rfl, k1, k2⟩
        rw [ASC.out] at k1
        go_wp2_with fail
        go_ret2
        have hlen : (s.size - lo) = (occF s.data.toList f.data.toList).length := by
          have := congrArg List.length ASC.out
          rw [asc_len, hxl, List.length_map] at this
          exact this
        rw [hxl, hlen] at k1
        exact ⟨v, rfl, own_low k1 (by have := HBZ.size; simp; omega), bstep (HBZ.alloc HBZ.size _) k2⟩
      · obtain rfl : lo = s.size := by omega
        go_wp2_with fail
        go_quiet (fail)
        go_wp2_with fail
        have RZ : (wr.drewN nq).rowIs g 3 s.size (fun k => .int .i64 (o k : Int)) := RG3
        have HBZ := below_drewN HB3 nq
        clear c0 c1 c2 BT3 BF3 BO3 RG3 HB3
        generalize wr.drewN nq = wz at *
        have hoc : (occF s.data.toList f.data.toList) = [] := by
          have := congrArg List.length ASC.out
          rw [asc_len, List.length_map, List.length_map, List.length_range, Nat.sub_self] at this
          exact List.length_eq_zero_iff.1 this.symm
        refine (values_any _ _ _ _).mono ?_
        rintro e w5 ⟨rfl, rfl⟩
        go_wp2_with fail
        have hSQ := sorted_seq wz.heap.size wz (wz.alloc (.cells #[.slice (some ⟨g, 0, none⟩) 0 0] 22)) (some ⟨g, 0, none⟩) 0 [] ⟨by simp, fun h => absurd h (by simp)⟩ ((Below.refl _ _).alloc (Nat.le_refl _) _) (by simp) ((Blk.new wz 22 #[.slice (some ⟨g, 0, none⟩) 0 0]).cell 0) (by simp)
        refine hSQ.mono ?_
        rintro e w6 ⟨v, rfl, k1, k2⟩
        go_wp2_with fail
        go_ret2
        exact ⟨v, rfl, by rw [hoc]; rw [show asc [] = [] from List.length_eq_zero_iff.1 (asc_len [])] at k1; exact own_low k1 (by have := HBZ.size; simp; omega), bstep (HBZ.alloc HBZ.size _) k2⟩
end Go.Proofs.Ytacjckocjngfoaa
