/-
  The walks of sched's ring: push and turn, Play, Jobs, turned. Nothing that was there is changed.
-/
import Derived.Test.YtifjahfolmhhpaaText
import Derived.Test.YtifjahfolmhhpaaOff
import Derived.Test.YtifjahfolmhhpaaMix
import Derived.Test.YtifjahfolmhhpaaCopy
import Derived.Test.YtifjahfolmhhpaaSchedP
import Derived.BigRegion
import Derived.Deep.RegionHeld3
namespace Go.Proofs.Ytifjahfolmhhpaa
open Go.RowKit Sch
set_option linter.unusedVariables false

def tkc (x : Nat × Nat) : List Value := [.int .i64 (x.1 : Int), .int .i64 (x.2 : Int)]
def jbc (j : Jb) : List Value := [.int .i64 (if j.push then 1 else 2), .int .i64 (j.n : Int)]
def dnc (d : Dn) : List Value := [.int .i64 (d.code : Int), .int .i64 (d.task : Int), .int .i64 (d.bytes : Int), .bool d.over]
theorem tkc_len (x : Nat × Nat) : (tkc x).length = 2 := rfl
theorem jbc_len (x : Jb) : (jbc x).length = 2 := rfl
theorem dnc_len (x : Dn) : (dnc x).length = 4 := rfl
theorem tkc_one (x : Nat × Nat) : ∀ u ∈ tkc x, u.oneCell' = true := by intro u hu; simp [tkc] at hu; rcases hu with rfl | rfl <;> rfl
theorem jbc_one (x : Jb) : ∀ u ∈ jbc x, u.oneCell' = true := by intro u hu; simp [jbc] at hu; rcases hu with rfl | rfl <;> rfl
theorem dnc_one (x : Dn) : ∀ u ∈ dnc x, u.oneCell' = true := by intro u hu; simp [dnc] at hu; rcases hu with rfl | rfl | rfl | rfl <;> rfl
theorem task_info : (Try.prog.info? 129).map (fun i => (i.zero, i.size, i.bytes)) = some (some (.agg #[.int .i64 0, .int .i64 0]), 2, 16) := by kernel_rfl
theorem job_info : (Try.prog.info? 29).map (fun i => (i.zero, i.size, i.bytes)) = some (some (.agg #[.int .i64 0, .int .i64 0]), 2, 16) := by kernel_rfl
theorem done_info : (Try.prog.info? 32).map (fun i => (i.zero, i.size, i.bytes)) = some (some (.agg #[.int .i64 0, .int .i64 0, .int .i64 0, .bool false]), 4, 32) := by kernel_rfl

/-- The ring as it lies in memory. -/
def Ring (w : World) (B R : Nat) (s : St) : Prop := ∃ v, Blk w R 111 #[v, .int .i64 (s.next : Int)] ∧ OffRow w B 129 2 v s.ts.length (cellsOf tkc s.ts) ∧ B ≤ R
/-- Only the ring's memory has changed. -/
structure Only (w w' : World) : Prop where
  os : w'.os = w.os
  tape : w'.tape = w.tape
  output : w'.output = w.output
  size : w.heap.size ≤ w'.heap.size
  block : ∀ (k : Nat) (cs : Array Value) (t : TypeId), t ≠ 111 → t ≠ 129 → w.heap[k]? = some (.cells cs t (0, 0)) → w'.heap[k]? = some (.cells cs t (0, 0))
def DnPost (B R : Nat) (s : St × Dn) (w : World) (e : Ending) (w' : World) : Prop := e = .returned (.agg (dnc s.2).toArray) ∧ Ring w' B R s.1 ∧ Only w w' ∧ Below B w w'

theorem Only.refl (w : World) : Only w w := ⟨rfl, rfl, rfl, Nat.le_refl _, fun _ _ _ _ _ h => h⟩
theorem Only.trans {a b c : World} (h : Only a b) (k : Only b c) : Only a c := ⟨k.os.trans h.os, k.tape.trans h.tape, k.output.trans h.output, Nat.le_trans h.size k.size, fun i cs t h1 h2 hc => k.block i cs t h1 h2 (h.block i cs t h1 h2 hc)⟩
theorem Only.of_below {a b : World} (h : Below a.heap.size a b) : Only a b := ⟨h.os, h.tape, h.output, h.size, fun i cs t _ _ hc => by rw [h.block i (Array.getElem?_eq_some_iff.1 hc).1]; exact hc⟩
theorem Only.set {a b : World} (h : Only a b) {R : Nat} {t : TypeId} {cs : Array Value} (ht : t = 111 ∨ t = 129) (hR : Blk b R t cs) (i : Nat) (u : Value) : Only a (b.setCell ⟨R, i, none⟩ u) :=
  ⟨h.os, h.tape, h.output, by simpa [World.setCell] using h.size, fun k cs' t' h1 h2 hc => by
    have hb := h.block k cs' t' h1 h2 hc
    rw [Below.heap_setCell b _ u k (fun e => by
      have e' : k = R := e
      subst e'
      unfold Blk at hR
      rw [hR] at hb
      injection hb with hb
      injection hb with _ hb _
      rcases ht with rfl | rfl
      · exact h1 hb.symm
      · exact h2 hb.symm)]
    exact hb⟩
theorem Only.setNew {a b : World} (h : Only a b) {p : Addr} (hp : a.heap.size ≤ p.block) (u : Value) : Only a (b.setCell p u) :=
  ⟨h.os, h.tape, h.output, by simpa [World.setCell] using h.size, fun k cs' t' h1 h2 hc => by
    rw [Below.heap_setCell b _ u k (fun e => by have := (Array.getElem?_eq_some_iff.1 hc).1; omega)]
    exact h.block k cs' t' h1 h2 hc⟩
theorem Only.alloc {a b : World} (h : Only a b) (o : Obj) : Only a (b.alloc o) := h.trans (Only.of_below ((Below.refl _ _).alloc (Nat.le_refl _) o))
theorem Only.drew {a b : World} (h : Only a b) : Only a b.drew := ⟨h.os, h.tape, h.output, h.size, h.block⟩
theorem Only.grown {a b c : World} (h : Only a b) {v : Value} {base n : Nat} {xs : List Value} (ho : OffRow b base 129 2 v n xs) (hg : b.grownBy c (offBlock v)) : Only a c :=
  ⟨hg.os.trans h.os, hg.tape.trans h.tape, hg.output.trans h.output, Nat.le_trans h.size hg.size, fun k cs t h1 h2 hc => by
    have hb := h.block k cs t h1 h2 hc
    rw [hg.block k (Array.getElem?_eq_some_iff.1 hb).1 (fun e => off_blk_ne ho (g := k) (t := t) (cs := cs) hb (Ne.symm h2) e.symm)]
    exact hb⟩
set_option maxRecDepth 100000 in
set_option maxHeartbeats 2000000 in
theorem push_any (B R n : Nat) (s : St) (w : World) (h : Ring w B R s) (hB : B ≤ w.heap.size) (hn : n ≤ 600) (hs : s.next ≤ 1000) (hl : s.ts.length ≤ 1000) :
    Calls Try.prog 57 #[.pointer (some ⟨R, 0, none⟩), .int .i64 (n : Int)] w (DnPost B R (stp s ⟨true, n⟩) w) := by
  obtain ⟨v, hR, ho, hBR⟩ := h
  have c0 := hR.cell 0
  have c1 := hR.cell 1
  have f0 := hR.frozen 0
  have f1 := hR.frozen 1
  have hlt := hR.lt
  simp at c0 c1
  by_cases h0 : n = 0
  · subst h0
    go_enter Try.func57, Try.ntmps57
    go_wp2_with fail
    refine bodyPost_ret (v := .agg #[.int .i64 0, .int .i64 (s.next : Int), .int .i64 0, .bool true]) (by simp [results, Try.results57, go_sem]) rfl ⟨rfl, ⟨v, ?_, ?_, hBR⟩, ?_, ?_⟩
    · exact ((hR.set_ 1 (.int .i64 ((s.next : Int) + 1))).alloc _).alloc _
    · exact ((ho.far (p := ⟨R, 1, none⟩) (.int .i64 ((s.next : Int) + 1)) (off_blk_ne ho hR (by decide))).alloc _).alloc _
    · exact (((Only.refl w).set (.inl rfl) hR 1 _).alloc _).alloc _
    · exact (((Below.refl B w).setCell (p := ⟨R, 1, none⟩) hBR _).alloc (by simpa using hB) _).alloc (by simp; omega) _
  · have hn0 : decide ((0 : Int) < (n : Int)) = true := by simp; omega
    have hn1 : ((n : Int) == 0) = false := by rw [beq_eq_false_iff_ne]; omega
    obtain ⟨i0, hi, hz0, hz1, hz2⟩ := info_parts task_info
    have hR1 := ((hR.set_ 1 (.int .i64 ((s.next : Int) + 1))).alloc (.cells #[.int .i64 0, .int .i64 0, .int .i64 0, .bool false] 32)).alloc (.cells #[.int .i64 (s.next : Int), .int .i64 (n : Int)] 129)
    have ho1 := ((ho.far (p := ⟨R, 1, none⟩) (.int .i64 ((s.next : Int) + 1)) (off_blk_ne ho hR (by decide))).alloc (.cells #[.int .i64 0, .int .i64 0, .int .i64 0, .bool false] 32)).alloc (.cells #[.int .i64 (s.next : Int), .int .i64 (n : Int)] 129)
    have hon := (((Only.refl w).set (.inl rfl) hR 1 (.int .i64 ((s.next : Int) + 1))).alloc (.cells #[.int .i64 0, .int .i64 0, .int .i64 0, .bool false] 32)).alloc (.cells #[.int .i64 (s.next : Int), .int .i64 (n : Int)] 129)
    have hbw := (((Below.refl B w).setCell (p := ⟨R, 1, none⟩) hBR (.int .i64 ((s.next : Int) + 1))).alloc (by simpa using hB) (.cells #[.int .i64 0, .int .i64 0, .int .i64 0, .bool false] 32)).alloc (by simp; omega) (.cells #[.int .i64 (s.next : Int), .int .i64 (n : Int)] 129)
    have hD : Blk (((w.setCell ⟨R, 1, none⟩ (.int .i64 ((s.next : Int) + 1))).alloc (.cells #[.int .i64 0, .int .i64 0, .int .i64 0, .bool false] 32)).alloc (.cells #[.int .i64 (s.next : Int), .int .i64 (n : Int)] 129)) w.heap.size 32 #[.int .i64 0, .int .i64 0, .int .i64 0, .bool false] := by
      have := (Blk.new (w.setCell ⟨R, 1, none⟩ (.int .i64 ((s.next : Int) + 1))) 32 #[.int .i64 0, .int .i64 0, .int .i64 0, .bool false]).alloc (.cells #[.int .i64 (s.next : Int), .int .i64 (n : Int)] 129)
      simpa using this
    have hT : Blk (((w.setCell ⟨R, 1, none⟩ (.int .i64 ((s.next : Int) + 1))).alloc (.cells #[.int .i64 0, .int .i64 0, .int .i64 0, .bool false] 32)).alloc (.cells #[.int .i64 (s.next : Int), .int .i64 (n : Int)] 129)) (w.heap.size + 1) 129 #[.int .i64 (s.next : Int), .int .i64 (n : Int)] := by
      have := Blk.new ((w.setCell ⟨R, 1, none⟩ (.int .i64 ((s.next : Int) + 1))).alloc (.cells #[.int .i64 0, .int .i64 0, .int .i64 0, .bool false] 32)) 129 #[.int .i64 (s.next : Int), .int .i64 (n : Int)]
      simpa using this
    have hvo := ho.lt
    go_enter Try.func57, Try.ntmps57
    go_wp2_with fail
    clear c0 c1 f0 f1 hR ho
    generalize ((w.setCell ⟨R, 1, none⟩ (.int .i64 ((s.next : Int) + 1))).alloc (.cells #[.int .i64 0, .int .i64 0, .int .i64 0, .bool false] 32)).alloc (.cells #[.int .i64 (s.next : Int), .int .i64 (n : Int)] 129) = W at *
    have c0 : W.cell? ⟨R, 0, none⟩ = some v := by rw [hR1.cell]; rfl
    have t0 : W.cell? ⟨w.heap.size + 1, 0, none⟩ = some (.int .i64 (s.next : Int)) := by rw [hT.cell]; rfl
    have t1 : W.cell? ⟨w.heap.size + 1, 1, none⟩ = some (.int .i64 (n : Int)) := by rw [hT.cell]; rfl
    have hK : Kept [(R, 0, v), (w.heap.size + 1, 0, .int .i64 (s.next : Int)), (w.heap.size + 1, 1, .int .i64 (n : Int))] W := fun x hx => by
      simp only [List.mem_cons, List.not_mem_nil, or_false] at hx
      rcases hx with rfl | rfl | rfl
      · exact c0
      · exact t0
      · exact t1
    refine wp_region_mix 6 2 (Kept [(R, 0, v), (w.heap.size + 1, 0, .int .i64 (s.next : Int)), (w.heap.size + 1, 1, .int .i64 (n : Int))]) (by kernel_rfl) (by kernel_rfl) (fun _ _ h1 h2 => h1.below h2) hK ?_
    intro ι F hne hF
    have c0F : ∀ i, (F i).cell? ⟨R, 0, none⟩ = some v := fun i => hF i (R, 0, v) (by simp)
    have t0F : ∀ i, (F i).cell? ⟨w.heap.size + 1, 0, none⟩ = some (.int .i64 (s.next : Int)) := fun i => hF i (w.heap.size + 1, 0, .int .i64 (s.next : Int)) (by simp)
    have t1F : ∀ i, (F i).cell? ⟨w.heap.size + 1, 1, none⟩ = some (.int .i64 (n : Int)) := fun i => hF i (w.heap.size + 1, 1, .int .i64 (n : Int)) (by simp)
    simp only [List.take_succ_cons, List.take_zero, List.drop_succ_cons, List.drop_zero]
    repeat (refine wpB_step (fun K hK => ?_); go_simp; first | (refine hK _ ?_; clear hK K) | (apply Exists.intro; refine ⟨fun _ => ?_, hK _ ?_⟩; (fail); clear hK K))
    refine wpB_nil ?_
    intro w2 hw2 hI2
    clear c0F t0F t1F hF
    (refine wpR_step (fun K hK => ?_); go_simp; refine hK _ _ ⟨hI2.alloc _, ?_⟩; clear hK K)
    intro w3 hw3 hI3
    have hb3 : Below W.heap.size W w3 := bstep (hw2.alloc hw2.size _) hw3
    have ho3 := ho1.below hb3
    have hr3 := (Reads.new w2 [.int .i64 (s.next : Int), .int .i64 (n : Int)] 129 2 rfl).below hw3
    have hR3 := hR1.below hb3 hR1.lt
    have hD3 := hD.below hb3 hD.lt
    have hT3 := hT.below hb3 hT.lt
    have hon3 := hon.trans (Only.of_below hb3)
    have hbw3 : Below B w w3 := hbw.trans (hb3.mono (Nat.le_trans hB hbw.size |> fun h => by omega))
    have hBs : B ≤ w3.heap.size := Nat.le_trans (Nat.le_trans hB hbw.size) hb3.size
    have hvT : offBlock v ≠ some (w.heap.size + 1) := fun e => by have := (hvo _ e).2; omega
    have hvD : offBlock v ≠ some w.heap.size := fun e => by have := (hvo _ e).2; omega
    have hvR : offBlock v ≠ some R := off_blk_ne ho1 hR1 (by decide)
    have hvB : ∀ g, offBlock v = some g → B ≤ g := fun g e => (hvo g e).1
    clear ho1 hR1 hD hT hon hbw hw2 hI2 hw3 hb3 hK c0 t0 t1
    refine wpR_append_off _ rfl (.tmp 32) (.tmp 34) _ rfl B 129 i0 _ 2 16 Try.underlying109 hi hz0 hz1 hz2 rfl (by decide) v s.ts.length (cellsOf tkc s.ts) rfl ho3 _ (some ⟨w2.heap.size, 0, none⟩) 1 1 [.int .i64 (s.next : Int), .int .i64 (n : Int)] rfl hr3 (by simp [Value.oneCell']) (by decide) (by unfold maxLen; omega) (by omega) hBs ?_
    intro v' w4 ho4 hg4 hat4
    refine ⟨hI3.grown hg4 (fun x hx => by
      simp only [List.mem_cons, List.not_mem_nil, or_false] at hx
      rcases hx with rfl | rfl | rfl
      · exact Ne.symm hvR
      · exact Ne.symm hvT
      · exact Ne.symm hvT), ?_⟩
    intro w5 hw5 hI5
    refine wpR_nil ?_
    have ho5 := ho4.below hw5
    have hR5 := (hR3.grown hg4 (Ne.symm hvR)).below hw5 (hR3.grown hg4 (Ne.symm hvR)).lt
    have hD5 := (hD3.grown hg4 (Ne.symm hvD)).below hw5 (hD3.grown hg4 (Ne.symm hvD)).lt
    have hT5 := (hT3.grown hg4 (Ne.symm hvT)).below hw5 (hT3.grown hg4 (Ne.symm hvT)).lt
    have hon5 := (hon3.grown ho3 hg4).trans (Only.of_below hw5)
    have hbw5 : Below B w w5 := (hbw3.grown hg4 hBs hvB).trans (hw5.mono (Nat.le_trans hBs hg4.size))
    clear ho3 hr3 hR3 hD3 hT3 hon3 hbw3 hI3 hg4 hw5 hI5 ho4 hat4
    have r0 := hR5.cell 0
    have rf := hR5.frozen 0
    have d0 := hD5.cell 0
    have d1 := hD5.cell 1
    have d2 := hD5.cell 2
    have d3 := hD5.cell 3
    have df := fun k => hD5.frozen k
    have t0 := hT5.cell 0
    simp at r0 d0 d1 d2 d3 t0
    have hRD : R ≠ w.heap.size := by omega
    have hRT : R ≠ w.heap.size + 1 := by omega
    obtain ⟨A', c', rfl, hl', hc'⟩ := off_slice ho5
    go_wp2_with fail
    have hR6 := hR5.set_ 0 (.slice A' (s.ts.length + 1) c')
    have ho6 := ho5.far (p := ⟨R, 0, none⟩) (.slice A' (s.ts.length + 1) c') (off_blk_ne ho5 hR5 (by decide))
    have hon6 := hon5.set (.inl rfl) hR5 0 (.slice A' (s.ts.length + 1) c')
    have hbw6 := hbw5.setCell (p := ⟨R, 0, none⟩) hBR (.slice A' (s.ts.length + 1) c')
    have hst : (stp s ⟨true, n⟩) = (⟨s.next + 1, s.ts ++ [(s.next, n)]⟩, ⟨0, s.next, 0, false⟩) := by
      have : (n == 0) = false := by rw [beq_eq_false_iff_ne]; exact h0
      simp [stp, this]; omega
    have hlb : w.heap.size ≤ (⟨w.heap.size, 0, none⟩ : Addr).block := Nat.le_refl _
    have hvd6 : offBlock (.slice A' (s.ts.length + 1) c') ≠ some w.heap.size := off_blk_ne ho5 hD5 (by decide)
    refine bodyPost_ret (v := .agg #[.int .i64 0, .int .i64 (s.next : Int), .int .i64 0, .bool false]) (by simp [results, Try.results57, go_sem, d0, d1, d2, d3]) rfl ?_
    rw [hst]
    refine ⟨rfl, ⟨.slice A' (s.ts.length + 1) c', ?_, ?_, hBR⟩, ?_, ?_⟩
    · exact (((hR6.far (p := ⟨w.heap.size, 0, none⟩) hRD _).far (p := ⟨w.heap.size, 1, none⟩) hRD _).far (p := ⟨w.heap.size, 2, none⟩) hRD _).far (p := ⟨w.heap.size, 3, none⟩) hRD _
    · have := (((ho6.far (p := ⟨w.heap.size, 0, none⟩) (.int .i64 0) hvd6).far (p := ⟨w.heap.size, 1, none⟩) (.int .i64 (s.next : Int)) hvd6).far (p := ⟨w.heap.size, 2, none⟩) (.int .i64 0) hvd6).far (p := ⟨w.heap.size, 3, none⟩) (.bool false) hvd6
      rw [cellsOf_snoc, List.length_append]; exact this
    · exact (((hon6.setNew (p := ⟨w.heap.size, 0, none⟩) hlb _).setNew (p := ⟨w.heap.size, 1, none⟩) hlb _).setNew (p := ⟨w.heap.size, 2, none⟩) hlb _).setNew (p := ⟨w.heap.size, 3, none⟩) hlb _
    · exact (((hbw6.setCell (p := ⟨w.heap.size, 0, none⟩) hB _).setCell (p := ⟨w.heap.size, 1, none⟩) hB _).setCell (p := ⟨w.heap.size, 2, none⟩) hB _).setCell (p := ⟨w.heap.size, 3, none⟩) hB _

set_option maxRecDepth 100000 in
set_option maxHeartbeats 2000000 in
theorem turn_any (B R n : Nat) (s : St) (w : World) (h : Ring w B R s) (hB : B ≤ w.heap.size) (hn : 1 ≤ n) (hn2 : n ≤ 50) (hl : s.ts.length ≤ 1000) (hb : ∀ x ∈ s.ts, x.1 ≤ 100000 ∧ x.2 ≤ 100000) :
    Calls Try.prog 58 #[.pointer (some ⟨R, 0, none⟩), .int .i64 (n : Int)] w (DnPost B R (stp s ⟨false, n⟩) w) := by
  obtain ⟨v, hR, ho, hBR⟩ := h
  have c0 := hR.cell 0
  have c1 := hR.cell 1
  have f0 := hR.frozen 0
  have f1 := hR.frozen 1
  have hlt := hR.lt
  simp at c0 c1
  obtain ⟨A, c, rfl, hlc, hcm⟩ := off_slice ho
  unfold maxLen at hcm
  rcases s with ⟨nx, ts⟩
  rcases ts with _ | ⟨⟨t, l⟩, r⟩
  · have hst : stp ⟨nx, []⟩ ⟨false, n⟩ = (⟨nx, []⟩, ⟨7, 0, 0, false⟩) := rfl
    go_enter Try.func58, Try.ntmps58
    go_wp2_with fail
    refine bodyPost_ret (v := .agg #[.int .i64 7, .int .i64 0, .int .i64 0, .bool false]) (by simp [results, Try.results58, go_sem]) rfl ?_
    exact ⟨rfl, ⟨_, hR.alloc _, ho.alloc _, hBR⟩, (Only.refl w).alloc _, (Below.refl B w).alloc hB _⟩
  · obtain ⟨g, o, cap, hv, hg, hgl, _, _, hoff, hcell, hfr⟩ := ho.form (by simp)
    injection hv with hv1 _ hv3
    subst hv1; subst hv3
    have x0 := hcell 0 (.int .i64 (t : Int)) rfl
    have x1 := hcell 1 (.int .i64 (l : Int)) rfl
    have hbt := hb (t, l) (by simp)
    simp only at hbt
    rw [Nat.add_zero] at x0
    have hvo := ho.lt
    by_cases hc1 : c = 1
    · have hr0 : r = [] := List.length_eq_zero_iff.1 (by simp at hlc; omega)
      subst hr0
      subst hc1
      have hT0 : OffRow w B 129 2 (.slice (some ⟨g, o, none⟩) 0 0) 0 (cellsOf tkc ([] : List (Nat × Nat))) := ⟨by simp [cellsOf], .inl ⟨rfl, _, rfl⟩⟩
      have hTB : ∀ k, offBlock (.slice (some ⟨g, o, none⟩) 0 0) = some k → B ≤ k ∧ k < w.heap.size := hT0.lt
      clear hcell ho hvo
      by_cases hln : l < n
      · have hst : stp ⟨nx, (t, l) :: ([] : List (Nat × Nat))⟩ ⟨false, n⟩ = (⟨nx, ([] : List (Nat × Nat))⟩, ⟨0, t, l, true⟩) := by
          have h1 : min n l = l := by omega
          have h2 : l - l = 0 := by omega
          simp [stp, h1, h2]
        go_enter Try.func58, Try.ntmps58
        go_wp2_with fail
        refine bodyPost_ret (v := .agg #[.int .i64 0, .int .i64 (t : Int), .int .i64 (l : Int), .bool true]) (by simp [results, Try.results58, go_sem]) rfl ?_
        refine ⟨rfl, ⟨(.slice (some ⟨g, o, none⟩) 0 0), ?_, ?_, hBR⟩, ?_, ?_⟩
        · exact ((hR.set_ 0 (.slice (some ⟨g, o, none⟩) 0 0)).alloc _).alloc _
        · exact ((hT0.far (p := ⟨R, 0, none⟩) (.slice (some ⟨g, o, none⟩) 0 0) (off_blk_ne hT0 hR (by decide))).alloc _).alloc _
        · exact (((Only.refl w).set (.inl rfl) hR 0 _).alloc _).alloc _
        · exact (((Below.refl B w).setCell (p := ⟨R, 0, none⟩) hBR _).alloc (by simpa using hB) _).alloc (by simp; omega) _
      · by_cases hle : l = n
        · subst hle
          have hst : stp ⟨nx, (t, l) :: ([] : List (Nat × Nat))⟩ ⟨false, l⟩ = (⟨nx, ([] : List (Nat × Nat))⟩, ⟨0, t, l, true⟩) := by
            have h2 : l - l = 0 := by omega
            simp [stp]
          go_enter Try.func58, Try.ntmps58
          go_wp2_with fail
          refine bodyPost_ret (v := .agg #[.int .i64 0, .int .i64 (t : Int), .int .i64 (l : Int), .bool true]) (by simp [results, Try.results58, go_sem]) rfl ?_
          refine ⟨rfl, ⟨(.slice (some ⟨g, o, none⟩) 0 0), ?_, ?_, hBR⟩, ?_, ?_⟩
          · exact ((hR.set_ 0 (.slice (some ⟨g, o, none⟩) 0 0)).alloc _).alloc _
          · exact ((hT0.far (p := ⟨R, 0, none⟩) (.slice (some ⟨g, o, none⟩) 0 0) (off_blk_ne hT0 hR (by decide))).alloc _).alloc _
          · exact (((Only.refl w).set (.inl rfl) hR 0 _).alloc _).alloc _
          · exact (((Below.refl B w).setCell (p := ⟨R, 0, none⟩) hBR _).alloc (by simpa using hB) _).alloc (by simp; omega) _
        · have hst : stp ⟨nx, (t, l) :: ([] : List (Nat × Nat))⟩ ⟨false, n⟩ = (⟨nx, ([] : List (Nat × Nat)) ++ [(t, l - n)]⟩, ⟨0, t, n, false⟩) := by
            have h1 : min n l = n := by omega
            have h2 : 0 < l - n := by omega
            have h3 : (l - n == 0) = false := by rw [beq_eq_false_iff_ne]; omega
            simp [stp, h1, h3]; omega
          have hq : 0 < (l : Int) - (n : Int) := by omega
          have hq2 : ((l : Int) - (n : Int) == 0) = false := by rw [beq_eq_false_iff_ne]; omega
          obtain ⟨i0, hi, hz0, hz1, hz2⟩ := info_parts task_info
          have hR1 := ((hR.set_ 0 (.slice (some ⟨g, o, none⟩) 0 0)).alloc (.cells #[.int .i64 0, .int .i64 0, .int .i64 0, .bool false] 32)).alloc (.cells #[.int .i64 (t : Int), .int .i64 ((l : Int) - (n : Int))] 129)
          have ho1 := ((hT0.far (p := ⟨R, 0, none⟩) (.slice (some ⟨g, o, none⟩) 0 0) (off_blk_ne hT0 hR (by decide))).alloc (.cells #[.int .i64 0, .int .i64 0, .int .i64 0, .bool false] 32)).alloc (.cells #[.int .i64 (t : Int), .int .i64 ((l : Int) - (n : Int))] 129)
          have hon := (((Only.refl w).set (.inl rfl) hR 0 (.slice (some ⟨g, o, none⟩) 0 0)).alloc (.cells #[.int .i64 0, .int .i64 0, .int .i64 0, .bool false] 32)).alloc (.cells #[.int .i64 (t : Int), .int .i64 ((l : Int) - (n : Int))] 129)
          have hbw := (((Below.refl B w).setCell (p := ⟨R, 0, none⟩) hBR (.slice (some ⟨g, o, none⟩) 0 0)).alloc (by simpa using hB) (.cells #[.int .i64 0, .int .i64 0, .int .i64 0, .bool false] 32)).alloc (by simp; omega) (.cells #[.int .i64 (t : Int), .int .i64 ((l : Int) - (n : Int))] 129)
          have hD : Blk (((w.setCell ⟨R, 0, none⟩ (.slice (some ⟨g, o, none⟩) 0 0)).alloc (.cells #[.int .i64 0, .int .i64 0, .int .i64 0, .bool false] 32)).alloc (.cells #[.int .i64 (t : Int), .int .i64 ((l : Int) - (n : Int))] 129)) w.heap.size 32 #[.int .i64 0, .int .i64 0, .int .i64 0, .bool false] := by
            have := (Blk.new (w.setCell ⟨R, 0, none⟩ (.slice (some ⟨g, o, none⟩) 0 0)) 32 #[.int .i64 0, .int .i64 0, .int .i64 0, .bool false]).alloc (.cells #[.int .i64 (t : Int), .int .i64 ((l : Int) - (n : Int))] 129)
            simpa using this
          have hT : Blk (((w.setCell ⟨R, 0, none⟩ (.slice (some ⟨g, o, none⟩) 0 0)).alloc (.cells #[.int .i64 0, .int .i64 0, .int .i64 0, .bool false] 32)).alloc (.cells #[.int .i64 (t : Int), .int .i64 ((l : Int) - (n : Int))] 129)) (w.heap.size + 1) 129 #[.int .i64 (t : Int), .int .i64 ((l : Int) - (n : Int))] := by
            have := Blk.new ((w.setCell ⟨R, 0, none⟩ (.slice (some ⟨g, o, none⟩) 0 0)).alloc (.cells #[.int .i64 0, .int .i64 0, .int .i64 0, .bool false] 32)) 129 #[.int .i64 (t : Int), .int .i64 ((l : Int) - (n : Int))]
            simpa using this
          have HST := Lib.hid hst
          have hrl : 0 ≤ 1000 := by simp at hl; omega
          clear hst
          go_enter Try.func58, Try.ntmps58
          go_wp2_with fail
          clear c0 c1 f0 f1 hR hT0 x0 x1 hfr hoff
          generalize ((w.setCell ⟨R, 0, none⟩ (.slice (some ⟨g, o, none⟩) 0 0)).alloc (.cells #[.int .i64 0, .int .i64 0, .int .i64 0, .bool false] 32)).alloc (.cells #[.int .i64 (t : Int), .int .i64 ((l : Int) - (n : Int))] 129) = W at *
          have c0 : W.cell? ⟨R, 0, none⟩ = some (.slice (some ⟨g, o, none⟩) 0 0) := by rw [hR1.cell]; rfl
          have t0 : W.cell? ⟨w.heap.size + 1, 0, none⟩ = some (.int .i64 (t : Int)) := by rw [hT.cell]; rfl
          have t1 : W.cell? ⟨w.heap.size + 1, 1, none⟩ = some (.int .i64 ((l : Int) - (n : Int))) := by rw [hT.cell]; rfl
          have hK : Kept [(R, 0, (.slice (some ⟨g, o, none⟩) 0 0)), (w.heap.size + 1, 0, .int .i64 (t : Int)), (w.heap.size + 1, 1, .int .i64 ((l : Int) - (n : Int)))] W := fun x hx => by
            simp only [List.mem_cons, List.not_mem_nil, or_false] at hx
            rcases hx with rfl | rfl | rfl
            · exact c0
            · exact t0
            · exact t1
          refine wp_region_mix 6 2 (Kept [(R, 0, (.slice (some ⟨g, o, none⟩) 0 0)), (w.heap.size + 1, 0, .int .i64 (t : Int)), (w.heap.size + 1, 1, .int .i64 ((l : Int) - (n : Int)))]) (by kernel_rfl) (by kernel_rfl) (fun _ _ h1 h2 => h1.below h2) hK ?_
          intro ι F hne hF
          have c0F : ∀ i, (F i).cell? ⟨R, 0, none⟩ = some (.slice (some ⟨g, o, none⟩) 0 0) := fun i => hF i (R, 0, (.slice (some ⟨g, o, none⟩) 0 0)) (by simp)
          have t0F : ∀ i, (F i).cell? ⟨w.heap.size + 1, 0, none⟩ = some (.int .i64 (t : Int)) := fun i => hF i (w.heap.size + 1, 0, .int .i64 (t : Int)) (by simp)
          have t1F : ∀ i, (F i).cell? ⟨w.heap.size + 1, 1, none⟩ = some (.int .i64 ((l : Int) - (n : Int))) := fun i => hF i (w.heap.size + 1, 1, .int .i64 ((l : Int) - (n : Int))) (by simp)
          simp only [List.take_succ_cons, List.take_zero, List.drop_succ_cons, List.drop_zero]
          repeat (refine wpB_step (fun K hK => ?_); go_simp; first | (refine hK _ ?_; clear hK K) | (apply Exists.intro; refine ⟨fun _ => ?_, hK _ ?_⟩; (fail); clear hK K))
          refine wpB_nil ?_
          intro w2 hw2 hI2
          clear c0F t0F t1F hF
          (refine wpR_step (fun K hK => ?_); go_simp; refine hK _ _ ⟨hI2.alloc _, ?_⟩; clear hK K)
          intro w3 hw3 hI3
          have hb3 : Below W.heap.size W w3 := bstep (hw2.alloc hw2.size _) hw3
          have ho3 := ho1.below hb3
          have hr3 := (Reads.new w2 [.int .i64 (t : Int), .int .i64 ((l : Int) - (n : Int))] 129 2 rfl).below hw3
          have hR3 := hR1.below hb3 hR1.lt
          have hD3 := hD.below hb3 hD.lt
          have hT3 := hT.below hb3 hT.lt
          have hon3 := hon.trans (Only.of_below hb3)
          have hbw3 : Below B w w3 := hbw.trans (hb3.mono (Nat.le_trans hB hbw.size |> fun h => by omega))
          have hBs : B ≤ w3.heap.size := Nat.le_trans (Nat.le_trans hB hbw.size) hb3.size
          have hvT : offBlock (.slice (some ⟨g, o, none⟩) 0 0) ≠ some (w.heap.size + 1) := fun e => by have := (hTB _ e).2; omega
          have hvD : offBlock (.slice (some ⟨g, o, none⟩) 0 0) ≠ some w.heap.size := fun e => by have := (hTB _ e).2; omega
          have hvR : offBlock (.slice (some ⟨g, o, none⟩) 0 0) ≠ some R := off_blk_ne ho1 hR1 (by decide)
          have hvB : ∀ g', offBlock (.slice (some ⟨g, o, none⟩) 0 0) = some g' → B ≤ g' := fun g' e => (hTB g' e).1
          clear ho1 hR1 hD hT hon hbw hw2 hI2 hw3 hb3 hK c0 t0 t1 hTB
          refine wpR_append_off _ rfl (.tmp 53) (.tmp 55) _ rfl B 129 i0 _ 2 16 Try.underlying109 hi hz0 hz1 hz2 rfl (by decide) (.slice (some ⟨g, o, none⟩) 0 0) 0 (cellsOf tkc ([] : List (Nat × Nat))) rfl ho3 _ (some ⟨w2.heap.size, 0, none⟩) 1 1 [.int .i64 (t : Int), .int .i64 ((l : Int) - (n : Int))] rfl hr3 (by simp [Value.oneCell']) (by decide) (by unfold maxLen; omega) (by omega) hBs ?_
          intro v' w4 ho4 hg4 hat4
          refine ⟨hI3.grown hg4 (fun x hx => by
            simp only [List.mem_cons, List.not_mem_nil, or_false] at hx
            rcases hx with rfl | rfl | rfl
            · exact Ne.symm hvR
            · exact Ne.symm hvT
            · exact Ne.symm hvT), ?_⟩
          intro w5 hw5 hI5
          refine wpR_nil ?_
          have ho5 := ho4.below hw5
          have hR5 := (hR3.grown hg4 (Ne.symm hvR)).below hw5 (hR3.grown hg4 (Ne.symm hvR)).lt
          have hD5 := (hD3.grown hg4 (Ne.symm hvD)).below hw5 (hD3.grown hg4 (Ne.symm hvD)).lt
          have hT5 := (hT3.grown hg4 (Ne.symm hvT)).below hw5 (hT3.grown hg4 (Ne.symm hvT)).lt
          have hon5 := (hon3.grown ho3 hg4).trans (Only.of_below hw5)
          have hbw5 : Below B w w5 := (hbw3.grown hg4 hBs hvB).trans (hw5.mono (Nat.le_trans hBs hg4.size))
          clear ho3 hr3 hR3 hD3 hT3 hon3 hbw3 hI3 hg4 hw5 hI5 ho4 hat4
          have r0 := hR5.cell 0
          have rf := hR5.frozen 0
          have d0 := hD5.cell 0
          have d1 := hD5.cell 1
          have d2 := hD5.cell 2
          have d3 := hD5.cell 3
          have df := fun k => hD5.frozen k
          have t0 := hT5.cell 0
          have t1 := hT5.cell 1
          simp at r0 d0 d1 d2 d3 t0 t1
          have hRD : R ≠ w.heap.size := by omega
          have hRT : R ≠ w.heap.size + 1 := by omega
          obtain ⟨A', c', rfl, hl', hc'⟩ := off_slice ho5
          go_wp2_with fail
          have hR6 := hR5.set_ 0 (.slice A' (0 + 1) c')
          have ho6 := ho5.far (p := ⟨R, 0, none⟩) (.slice A' (0 + 1) c') (off_blk_ne ho5 hR5 (by decide))
          have hon6 := hon5.set (.inl rfl) hR5 0 (.slice A' (0 + 1) c')
          have hbw6 := hbw5.setCell (p := ⟨R, 0, none⟩) hBR (.slice A' (0 + 1) c')
          have hlb : w.heap.size ≤ (⟨w.heap.size, 0, none⟩ : Addr).block := Nat.le_refl _
          have hvd6 : offBlock (.slice A' (0 + 1) c') ≠ some w.heap.size := off_blk_ne ho5 hD5 (by decide)
          refine bodyPost_ret (v := .agg #[.int .i64 0, .int .i64 (t : Int), .int .i64 (n : Int), .bool false]) (by simp [results, Try.results58, go_sem, d0, d1, d2, d3]) rfl ?_
          rw [HST.out]
          refine ⟨rfl, ⟨.slice A' (0 + 1) c', ?_, ?_, hBR⟩, ?_, ?_⟩
          · exact (((hR6.far (p := ⟨w.heap.size, 0, none⟩) hRD _).far (p := ⟨w.heap.size, 1, none⟩) hRD _).far (p := ⟨w.heap.size, 2, none⟩) hRD _).far (p := ⟨w.heap.size, 3, none⟩) hRD _
          · have := (((ho6.far (p := ⟨w.heap.size, 0, none⟩) (.int .i64 0) hvd6).far (p := ⟨w.heap.size, 1, none⟩) (.int .i64 (t : Int)) hvd6).far (p := ⟨w.heap.size, 2, none⟩) (.int .i64 (n : Int)) hvd6).far (p := ⟨w.heap.size, 3, none⟩) (.bool false) hvd6
            have e : tkc (t, l - n) = [.int .i64 (t : Int), .int .i64 ((l : Int) - (n : Int))] := by simp [tkc]; omega
            rw [cellsOf_snoc, e, List.length_append]; exact this
          · exact (((hon6.setNew (p := ⟨w.heap.size, 0, none⟩) hlb _).setNew (p := ⟨w.heap.size, 1, none⟩) hlb _).setNew (p := ⟨w.heap.size, 2, none⟩) hlb _).setNew (p := ⟨w.heap.size, 3, none⟩) hlb _
          · exact (((hbw6.setCell (p := ⟨w.heap.size, 0, none⟩) hB _).setCell (p := ⟨w.heap.size, 1, none⟩) hB _).setCell (p := ⟨w.heap.size, 2, none⟩) hB _).setCell (p := ⟨w.heap.size, 3, none⟩) hB _
    · have hc2 : 1 < c := by simp at hlc; omega
      have hT0 : OffRow w B 129 2 (.slice (some ⟨g, o + 2, none⟩) r.length (c - 1)) r.length (cellsOf tkc r) := by
        have := ho.drop (k := 1) (by simp)
        rw [if_neg hc1] at this
        simpa [add_plain, cellsOf, tkc] using this
      have hTB : ∀ k, offBlock (.slice (some ⟨g, o + 2, none⟩) r.length (c - 1)) = some k → B ≤ k ∧ k < w.heap.size := hT0.lt
      clear hcell ho hvo
      by_cases hln : l < n
      · have hst : stp ⟨nx, (t, l) :: r⟩ ⟨false, n⟩ = (⟨nx, r⟩, ⟨0, t, l, true⟩) := by
          have h1 : min n l = l := by omega
          have h2 : l - l = 0 := by omega
          simp [stp, h1, h2]
        go_enter Try.func58, Try.ntmps58
        go_wp2_with fail
        refine bodyPost_ret (v := .agg #[.int .i64 0, .int .i64 (t : Int), .int .i64 (l : Int), .bool true]) (by simp [results, Try.results58, go_sem]) rfl ?_
        refine ⟨rfl, ⟨(.slice (some ⟨g, o + 2, none⟩) r.length (c - 1)), ?_, ?_, hBR⟩, ?_, ?_⟩
        · exact ((hR.set_ 0 (.slice (some ⟨g, o + 2, none⟩) r.length (c - 1))).alloc _).alloc _
        · exact ((hT0.far (p := ⟨R, 0, none⟩) (.slice (some ⟨g, o + 2, none⟩) r.length (c - 1)) (off_blk_ne hT0 hR (by decide))).alloc _).alloc _
        · exact (((Only.refl w).set (.inl rfl) hR 0 _).alloc _).alloc _
        · exact (((Below.refl B w).setCell (p := ⟨R, 0, none⟩) hBR _).alloc (by simpa using hB) _).alloc (by simp; omega) _
      · by_cases hle : l = n
        · subst hle
          have hst : stp ⟨nx, (t, l) :: r⟩ ⟨false, l⟩ = (⟨nx, r⟩, ⟨0, t, l, true⟩) := by
            have h2 : l - l = 0 := by omega
            simp [stp]
          go_enter Try.func58, Try.ntmps58
          go_wp2_with fail
          refine bodyPost_ret (v := .agg #[.int .i64 0, .int .i64 (t : Int), .int .i64 (l : Int), .bool true]) (by simp [results, Try.results58, go_sem]) rfl ?_
          refine ⟨rfl, ⟨(.slice (some ⟨g, o + 2, none⟩) r.length (c - 1)), ?_, ?_, hBR⟩, ?_, ?_⟩
          · exact ((hR.set_ 0 (.slice (some ⟨g, o + 2, none⟩) r.length (c - 1))).alloc _).alloc _
          · exact ((hT0.far (p := ⟨R, 0, none⟩) (.slice (some ⟨g, o + 2, none⟩) r.length (c - 1)) (off_blk_ne hT0 hR (by decide))).alloc _).alloc _
          · exact (((Only.refl w).set (.inl rfl) hR 0 _).alloc _).alloc _
          · exact (((Below.refl B w).setCell (p := ⟨R, 0, none⟩) hBR _).alloc (by simpa using hB) _).alloc (by simp; omega) _
        · have hst : stp ⟨nx, (t, l) :: r⟩ ⟨false, n⟩ = (⟨nx, r ++ [(t, l - n)]⟩, ⟨0, t, n, false⟩) := by
            have h1 : min n l = n := by omega
            have h2 : 0 < l - n := by omega
            have h3 : (l - n == 0) = false := by rw [beq_eq_false_iff_ne]; omega
            simp [stp, h1, h3]; omega
          have hq : 0 < (l : Int) - (n : Int) := by omega
          have hq2 : ((l : Int) - (n : Int) == 0) = false := by rw [beq_eq_false_iff_ne]; omega
          obtain ⟨i0, hi, hz0, hz1, hz2⟩ := info_parts task_info
          have hR1 := ((hR.set_ 0 (.slice (some ⟨g, o + 2, none⟩) r.length (c - 1))).alloc (.cells #[.int .i64 0, .int .i64 0, .int .i64 0, .bool false] 32)).alloc (.cells #[.int .i64 (t : Int), .int .i64 ((l : Int) - (n : Int))] 129)
          have ho1 := ((hT0.far (p := ⟨R, 0, none⟩) (.slice (some ⟨g, o + 2, none⟩) r.length (c - 1)) (off_blk_ne hT0 hR (by decide))).alloc (.cells #[.int .i64 0, .int .i64 0, .int .i64 0, .bool false] 32)).alloc (.cells #[.int .i64 (t : Int), .int .i64 ((l : Int) - (n : Int))] 129)
          have hon := (((Only.refl w).set (.inl rfl) hR 0 (.slice (some ⟨g, o + 2, none⟩) r.length (c - 1))).alloc (.cells #[.int .i64 0, .int .i64 0, .int .i64 0, .bool false] 32)).alloc (.cells #[.int .i64 (t : Int), .int .i64 ((l : Int) - (n : Int))] 129)
          have hbw := (((Below.refl B w).setCell (p := ⟨R, 0, none⟩) hBR (.slice (some ⟨g, o + 2, none⟩) r.length (c - 1))).alloc (by simpa using hB) (.cells #[.int .i64 0, .int .i64 0, .int .i64 0, .bool false] 32)).alloc (by simp; omega) (.cells #[.int .i64 (t : Int), .int .i64 ((l : Int) - (n : Int))] 129)
          have hD : Blk (((w.setCell ⟨R, 0, none⟩ (.slice (some ⟨g, o + 2, none⟩) r.length (c - 1))).alloc (.cells #[.int .i64 0, .int .i64 0, .int .i64 0, .bool false] 32)).alloc (.cells #[.int .i64 (t : Int), .int .i64 ((l : Int) - (n : Int))] 129)) w.heap.size 32 #[.int .i64 0, .int .i64 0, .int .i64 0, .bool false] := by
            have := (Blk.new (w.setCell ⟨R, 0, none⟩ (.slice (some ⟨g, o + 2, none⟩) r.length (c - 1))) 32 #[.int .i64 0, .int .i64 0, .int .i64 0, .bool false]).alloc (.cells #[.int .i64 (t : Int), .int .i64 ((l : Int) - (n : Int))] 129)
            simpa using this
          have hT : Blk (((w.setCell ⟨R, 0, none⟩ (.slice (some ⟨g, o + 2, none⟩) r.length (c - 1))).alloc (.cells #[.int .i64 0, .int .i64 0, .int .i64 0, .bool false] 32)).alloc (.cells #[.int .i64 (t : Int), .int .i64 ((l : Int) - (n : Int))] 129)) (w.heap.size + 1) 129 #[.int .i64 (t : Int), .int .i64 ((l : Int) - (n : Int))] := by
            have := Blk.new ((w.setCell ⟨R, 0, none⟩ (.slice (some ⟨g, o + 2, none⟩) r.length (c - 1))).alloc (.cells #[.int .i64 0, .int .i64 0, .int .i64 0, .bool false] 32)) 129 #[.int .i64 (t : Int), .int .i64 ((l : Int) - (n : Int))]
            simpa using this
          have HST := Lib.hid hst
          have hrl : r.length ≤ 1000 := by simp at hl; omega
          clear hst
          go_enter Try.func58, Try.ntmps58
          go_wp2_with fail
          clear c0 c1 f0 f1 hR hT0 x0 x1 hfr hoff
          generalize ((w.setCell ⟨R, 0, none⟩ (.slice (some ⟨g, o + 2, none⟩) r.length (c - 1))).alloc (.cells #[.int .i64 0, .int .i64 0, .int .i64 0, .bool false] 32)).alloc (.cells #[.int .i64 (t : Int), .int .i64 ((l : Int) - (n : Int))] 129) = W at *
          have c0 : W.cell? ⟨R, 0, none⟩ = some (.slice (some ⟨g, o + 2, none⟩) r.length (c - 1)) := by rw [hR1.cell]; rfl
          have t0 : W.cell? ⟨w.heap.size + 1, 0, none⟩ = some (.int .i64 (t : Int)) := by rw [hT.cell]; rfl
          have t1 : W.cell? ⟨w.heap.size + 1, 1, none⟩ = some (.int .i64 ((l : Int) - (n : Int))) := by rw [hT.cell]; rfl
          have hK : Kept [(R, 0, (.slice (some ⟨g, o + 2, none⟩) r.length (c - 1))), (w.heap.size + 1, 0, .int .i64 (t : Int)), (w.heap.size + 1, 1, .int .i64 ((l : Int) - (n : Int)))] W := fun x hx => by
            simp only [List.mem_cons, List.not_mem_nil, or_false] at hx
            rcases hx with rfl | rfl | rfl
            · exact c0
            · exact t0
            · exact t1
          refine wp_region_mix 6 2 (Kept [(R, 0, (.slice (some ⟨g, o + 2, none⟩) r.length (c - 1))), (w.heap.size + 1, 0, .int .i64 (t : Int)), (w.heap.size + 1, 1, .int .i64 ((l : Int) - (n : Int)))]) (by kernel_rfl) (by kernel_rfl) (fun _ _ h1 h2 => h1.below h2) hK ?_
          intro ι F hne hF
          have c0F : ∀ i, (F i).cell? ⟨R, 0, none⟩ = some (.slice (some ⟨g, o + 2, none⟩) r.length (c - 1)) := fun i => hF i (R, 0, (.slice (some ⟨g, o + 2, none⟩) r.length (c - 1))) (by simp)
          have t0F : ∀ i, (F i).cell? ⟨w.heap.size + 1, 0, none⟩ = some (.int .i64 (t : Int)) := fun i => hF i (w.heap.size + 1, 0, .int .i64 (t : Int)) (by simp)
          have t1F : ∀ i, (F i).cell? ⟨w.heap.size + 1, 1, none⟩ = some (.int .i64 ((l : Int) - (n : Int))) := fun i => hF i (w.heap.size + 1, 1, .int .i64 ((l : Int) - (n : Int))) (by simp)
          simp only [List.take_succ_cons, List.take_zero, List.drop_succ_cons, List.drop_zero]
          repeat (refine wpB_step (fun K hK => ?_); go_simp; first | (refine hK _ ?_; clear hK K) | (apply Exists.intro; refine ⟨fun _ => ?_, hK _ ?_⟩; (fail); clear hK K))
          refine wpB_nil ?_
          intro w2 hw2 hI2
          clear c0F t0F t1F hF
          (refine wpR_step (fun K hK => ?_); go_simp; refine hK _ _ ⟨hI2.alloc _, ?_⟩; clear hK K)
          intro w3 hw3 hI3
          have hb3 : Below W.heap.size W w3 := bstep (hw2.alloc hw2.size _) hw3
          have ho3 := ho1.below hb3
          have hr3 := (Reads.new w2 [.int .i64 (t : Int), .int .i64 ((l : Int) - (n : Int))] 129 2 rfl).below hw3
          have hR3 := hR1.below hb3 hR1.lt
          have hD3 := hD.below hb3 hD.lt
          have hT3 := hT.below hb3 hT.lt
          have hon3 := hon.trans (Only.of_below hb3)
          have hbw3 : Below B w w3 := hbw.trans (hb3.mono (Nat.le_trans hB hbw.size |> fun h => by omega))
          have hBs : B ≤ w3.heap.size := Nat.le_trans (Nat.le_trans hB hbw.size) hb3.size
          have hvT : offBlock (.slice (some ⟨g, o + 2, none⟩) r.length (c - 1)) ≠ some (w.heap.size + 1) := fun e => by have := (hTB _ e).2; omega
          have hvD : offBlock (.slice (some ⟨g, o + 2, none⟩) r.length (c - 1)) ≠ some w.heap.size := fun e => by have := (hTB _ e).2; omega
          have hvR : offBlock (.slice (some ⟨g, o + 2, none⟩) r.length (c - 1)) ≠ some R := off_blk_ne ho1 hR1 (by decide)
          have hvB : ∀ g', offBlock (.slice (some ⟨g, o + 2, none⟩) r.length (c - 1)) = some g' → B ≤ g' := fun g' e => (hTB g' e).1
          clear ho1 hR1 hD hT hon hbw hw2 hI2 hw3 hb3 hK c0 t0 t1 hTB
          refine wpR_append_off _ rfl (.tmp 53) (.tmp 55) _ rfl B 129 i0 _ 2 16 Try.underlying109 hi hz0 hz1 hz2 rfl (by decide) (.slice (some ⟨g, o + 2, none⟩) r.length (c - 1)) r.length (cellsOf tkc r) rfl ho3 _ (some ⟨w2.heap.size, 0, none⟩) 1 1 [.int .i64 (t : Int), .int .i64 ((l : Int) - (n : Int))] rfl hr3 (by simp [Value.oneCell']) (by decide) (by unfold maxLen; omega) (by omega) hBs ?_
          intro v' w4 ho4 hg4 hat4
          refine ⟨hI3.grown hg4 (fun x hx => by
            simp only [List.mem_cons, List.not_mem_nil, or_false] at hx
            rcases hx with rfl | rfl | rfl
            · exact Ne.symm hvR
            · exact Ne.symm hvT
            · exact Ne.symm hvT), ?_⟩
          intro w5 hw5 hI5
          refine wpR_nil ?_
          have ho5 := ho4.below hw5
          have hR5 := (hR3.grown hg4 (Ne.symm hvR)).below hw5 (hR3.grown hg4 (Ne.symm hvR)).lt
          have hD5 := (hD3.grown hg4 (Ne.symm hvD)).below hw5 (hD3.grown hg4 (Ne.symm hvD)).lt
          have hT5 := (hT3.grown hg4 (Ne.symm hvT)).below hw5 (hT3.grown hg4 (Ne.symm hvT)).lt
          have hon5 := (hon3.grown ho3 hg4).trans (Only.of_below hw5)
          have hbw5 : Below B w w5 := (hbw3.grown hg4 hBs hvB).trans (hw5.mono (Nat.le_trans hBs hg4.size))
          clear ho3 hr3 hR3 hD3 hT3 hon3 hbw3 hI3 hg4 hw5 hI5 ho4 hat4
          have r0 := hR5.cell 0
          have rf := hR5.frozen 0
          have d0 := hD5.cell 0
          have d1 := hD5.cell 1
          have d2 := hD5.cell 2
          have d3 := hD5.cell 3
          have df := fun k => hD5.frozen k
          have t0 := hT5.cell 0
          have t1 := hT5.cell 1
          simp at r0 d0 d1 d2 d3 t0 t1
          have hRD : R ≠ w.heap.size := by omega
          have hRT : R ≠ w.heap.size + 1 := by omega
          obtain ⟨A', c', rfl, hl', hc'⟩ := off_slice ho5
          go_wp2_with fail
          have hR6 := hR5.set_ 0 (.slice A' (r.length + 1) c')
          have ho6 := ho5.far (p := ⟨R, 0, none⟩) (.slice A' (r.length + 1) c') (off_blk_ne ho5 hR5 (by decide))
          have hon6 := hon5.set (.inl rfl) hR5 0 (.slice A' (r.length + 1) c')
          have hbw6 := hbw5.setCell (p := ⟨R, 0, none⟩) hBR (.slice A' (r.length + 1) c')
          have hlb : w.heap.size ≤ (⟨w.heap.size, 0, none⟩ : Addr).block := Nat.le_refl _
          have hvd6 : offBlock (.slice A' (r.length + 1) c') ≠ some w.heap.size := off_blk_ne ho5 hD5 (by decide)
          refine bodyPost_ret (v := .agg #[.int .i64 0, .int .i64 (t : Int), .int .i64 (n : Int), .bool false]) (by simp [results, Try.results58, go_sem, d0, d1, d2, d3]) rfl ?_
          rw [HST.out]
          refine ⟨rfl, ⟨.slice A' (r.length + 1) c', ?_, ?_, hBR⟩, ?_, ?_⟩
          · exact (((hR6.far (p := ⟨w.heap.size, 0, none⟩) hRD _).far (p := ⟨w.heap.size, 1, none⟩) hRD _).far (p := ⟨w.heap.size, 2, none⟩) hRD _).far (p := ⟨w.heap.size, 3, none⟩) hRD _
          · have := (((ho6.far (p := ⟨w.heap.size, 0, none⟩) (.int .i64 0) hvd6).far (p := ⟨w.heap.size, 1, none⟩) (.int .i64 (t : Int)) hvd6).far (p := ⟨w.heap.size, 2, none⟩) (.int .i64 (n : Int)) hvd6).far (p := ⟨w.heap.size, 3, none⟩) (.bool false) hvd6
            have e : tkc (t, l - n) = [.int .i64 (t : Int), .int .i64 ((l : Int) - (n : Int))] := by simp [tkc]; omega
            rw [cellsOf_snoc, e, List.length_append]; exact this
          · exact (((hon6.setNew (p := ⟨w.heap.size, 0, none⟩) hlb _).setNew (p := ⟨w.heap.size, 1, none⟩) hlb _).setNew (p := ⟨w.heap.size, 2, none⟩) hlb _).setNew (p := ⟨w.heap.size, 3, none⟩) hlb _
          · exact (((hbw6.setCell (p := ⟨w.heap.size, 0, none⟩) hB _).setCell (p := ⟨w.heap.size, 1, none⟩) hB _).setCell (p := ⟨w.heap.size, 2, none⟩) hB _).setCell (p := ⟨w.heap.size, 3, none⟩) hB _
end Go.Proofs.Ytifjahfolmhhpaa
