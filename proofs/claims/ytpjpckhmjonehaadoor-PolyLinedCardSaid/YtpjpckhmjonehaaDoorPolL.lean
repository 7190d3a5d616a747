/-
  The walk of poly.Lines: the number of each line.
-/
import Derived.Test.YtpjpckhmjonehaaDoorPolR
import Derived.Test.YtpjpckhmjonehaaDoorPoly
import Derived.Test.YtpjpckhmjonehaaDoorCopy
import Derived.Shelf.RegionOpen
namespace Go.Proofs.YtpjpckhmjonehaaDoor
open Go.RowKit Go.Shelf
set_option linter.unusedVariables false
set_option linter.unusedSimpArgs false
attribute [local go_sem] Oper.semAt_some

def itf (b : Nat) : Value := .func (.func 18) #[] #[.pointer (some ⟨b + 1, 0, none⟩), .pointer (some ⟨b, 0, none⟩), .pointer (some ⟨b + 2, 0, none⟩)]
def SeqPost (s : ByteArray) (w : World) (e : Ending) (w' : World) : Prop :=
  e = .returned (itf w.heap.size) ∧ w' = ((w.alloc (.cells #[.string s] 9)).alloc (.cells #[.string ⟨#[10]⟩] 9)).alloc (.cells #[.int .i64 0] 3)
theorem splitSeq_any (s : ByteArray) (w : World) : Calls Tryd.prog 13 #[.string s, .string ⟨#[10]⟩, .int .i64 0] w (SeqPost s w) := by
  go_enter Tryd.func13, Tryd.ntmps13
  go_wp2_with fail
  go_ret
  exact ⟨rfl, rfl⟩
theorem seqOf_any (s : ByteArray) (w : World) : Calls Tryd.prog 9 #[.string s, .string ⟨#[10]⟩] w (SeqPost s w) := by
  have HS := Lib.hid (splitSeq_any s w)
  go_enter Tryd.func9, Tryd.ntmps9
  go_wp2_with fail
  refine HS.out.mono ?_
  rintro e w1 ⟨rfl, rfl⟩
  clear HS
  go_wp2_with fail
  go_ret
  exact ⟨rfl, rfl⟩
theorem pint_info : (Tryd.prog.info? 3).map (fun i => (i.zero, i.size, i.bytes)) = some (some (.int .i64 0), 1, 8) := by kernel_rfl
/-- The numbers of the lines. -/
def lnv (l : List (List UInt8)) : List Int := l.map hv
def LinesPost (s : ByteArray) (w : World) (e : Ending) (w' : World) : Prop :=
  ∃ v, e = .returned (.tuple #[v, .int .i64 0]) ∧ w'.ownsRow w.heap.size 3 1 v (spl s.data.toList).length ((lnv (spl s.data.toList)).map (.int .i64)) ∧ Below w.heap.size w w'
/-- What poly.Lines holds on to while it runs. -/
def LinI (w W0 : World) (pre : List ByteArray) (W : World) : Prop :=
  (∃ v, Blk W w.heap.size 22 #[v] ∧ W.ownsRow W0.heap.size 3 1 v pre.length ((lnv (pre.map fun x => x.data.toList)).map (.int .i64))) ∧ Below w.heap.size w W ∧ W0.heap.size ≤ W.heap.size
theorem linI_bears (w W0 : World) (hs : w.heap.size + 4 ≤ W0.heap.size) : Bears W0 (w.heap.size + 1) (LinI w W0) := by
  refine ⟨fun pre W o h => ?_, fun pre W u h => ?_, fun pre W l o o' h hl hlo ho => ?_⟩
  · obtain ⟨⟨v, h1, h2⟩, h3, h4⟩ := h
    exact ⟨⟨v, h1.alloc o, h2.alloc o⟩, h3.alloc h3.size o, by simp; omega⟩
  · obtain ⟨⟨v, h1, h2⟩, h3, h4⟩ := h
    refine ⟨⟨v, h1.far (by show w.heap.size ≠ w.heap.size + 1; omega) u, h2.kept (grownBy_setCell' W (w.heap.size + 1) u) (.inr fun e => ?_)⟩, h3.setCell (p := ⟨w.heap.size + 1, 0, none⟩) (by show w.heap.size ≤ w.heap.size + 1; omega) u, by simpa using h4⟩
    have := (h2.lt _ e).1
    omega
  · obtain ⟨⟨v, h1, h2⟩, h3, h4⟩ := h
    have hll : l < W.heap.size := (Array.getElem?_eq_some_iff.1 hlo).1
    refine ⟨⟨v, (World.putObj_heap_other (by omega)).trans h1, h2.kept (grownBy_putObj' W l o') (.inr fun e => ?_)⟩, h3.grown (grownBy_putObj' W l o') h3.size (fun k e => by cases e; omega), ?_⟩
    · rcases h2.2 with ⟨rfl, _⟩ | ⟨g, cap, cur, rfl, _, hgb, _⟩
      · cases e
      · obtain rfl : g = l := by simpa [Value.ownBlock] using e
        rw [hgb] at hlo
        cases hlo
        cases ho
    · have := (grownBy_putObj' W l o').size
      omega
/-- 'append(s, x)' of one value that has just been laid, as one operation inside a fence. -/
theorem opIn_append1 {F : Fence} {n : Nat} {P : Program} {W w : World} {o : Oper} {a : Act} {K : Act → World → Prop} {Q : Exit → Act → World → Prop} (s x : Operand) (t : TypeId)
    (hop : o.op = .call { callee := .builtin .append, args := #[s, x], argTypes := #[t, t] })
    (base : Nat) (e : TypeId) (z : Value) (bytes : Nat) (ht : P.underlying t = some (.slice e)) (hi : (P.info? e).map (fun i => (i.zero, i.size, i.bytes)) = some (some z, 1, bytes)) (hz1 : z.cells.size = 1)
    (v : Value) (k : Nat) (xs : List Value) (hs : a.eval s = v) (hown : W.ownsRow base e 1 v k xs) (u : Value) (hx : a.eval x = .slice (some ⟨W.heap.size, 0, none⟩) 1 1) (hw : w = W.alloc (.cells #[u] e)) (h1 : u.oneCell' = true)
    (hn : (k + 1) * bytes ≤ 140737488355328) (hn2 : k ≤ 1000000) (hbase : base ≤ W.heap.size)
    (hK : ∀ v' w', w'.ownsRow base e 1 v' (k + 1) (xs ++ [u]) → w.grownBy w' v.ownBlock → K (a.put o.dst v') w') : Oper.wpIn F n P o a w K Q := by
  subst hw
  obtain ⟨i, hi0, hz0, hzs, hzb⟩ := info_parts hi
  obtain ⟨v', w', hrun, r1, r2, _⟩ := run_append_own (P := P) (W.alloc (.cells #[u] e)) base t o.type e i z 1 bytes ht hi0 hz0 hzs hzb hz1 (by decide) v k xs (hown.alloc _) ⟨W.heap.size, 0, none⟩ 1 1 [u] rfl (one_new W u e) (by simpa using h1) (by unfold maxLen; omega) hn (by simp; omega)
  unfold Oper.wpIn
  refine ⟨by simp [Oper.about, hop, resolve, Target.leads, Sem.run_pure], ?_⟩
  rw [Oper.semAt_plain F _ _ (by rw [hop]; intro c hc; cases hc)]
  simp [execOp, hop, resolve, invoke, builtin, hs, hx, hrun, Result.andThen]
  exact hK _ _ r1 r2
/-- Behind the append of a round. -/
theorem lin_box {w W0 W w2 w8 : World} {v : Value} {k : Nat} {xs : List Value} {u : Value} (hs : w.heap.size + 4 ≤ W0.heap.size) (hbx : Blk W w.heap.size 22 #[v]) (hown : W.ownsRow W0.heap.size 3 1 v k xs) (hb2 : Below W.heap.size W w2)
    (hg8 : (w2.alloc (.cells #[u] 3)).grownBy w8 v.ownBlock) : Blk w8 w.heap.size 22 #[v] := by
  have h2 : Blk w2 w.heap.size 22 #[v] := (hb2.block _ hbx.lt).trans hbx
  refine (h2.alloc _).grown hg8 (fun e => ?_)
  have := (hown.lt _ e.symm).1
  omega
theorem lin_leaf {w W0 W w2 w8 : World} {pre : List ByteArray} {x : ByteArray} {v v8 : Value} (hs : w.heap.size + 4 ≤ W0.heap.size) (hbx : Blk W w.heap.size 22 #[v])
    (hown : W.ownsRow W0.heap.size 3 1 v pre.length ((lnv (pre.map fun x => x.data.toList)).map (.int .i64))) (hB : Below w.heap.size w W) (hle : W0.heap.size ≤ W.heap.size) (hb2 : Below W.heap.size W w2)
    (ho8 : w8.ownsRow W0.heap.size 3 1 v8 (pre.length + 1) ((lnv (pre.map fun x => x.data.toList)).map (.int .i64) ++ [.int .i64 (hv x.data.toList)]))
    (hg8 : (w2.alloc (.cells #[.int .i64 (hv x.data.toList)] 3)).grownBy w8 v.ownBlock) :
    KeepsFrom W0.heap.size W (w8.setCell ⟨w.heap.size, 0, none⟩ v8) ∧ (∀ q, w.heap.size + 1 ≤ q → q < w.heap.size + 1 + 3 → (w8.setCell ⟨w.heap.size, 0, none⟩ v8).heap[q]? = W.heap[q]?) ∧ LinI w W0 (pre ++ [x]) (w8.setCell ⟨w.heap.size, 0, none⟩ v8) := by
  have hsz2 := hb2.size
  have hsz8 := hg8.size
  rw [World.size_alloc] at hsz8
  have hset : (w8.setCell ⟨w.heap.size, 0, none⟩ v8).heap.size = w8.heap.size := by simp
  have hkeep : ∀ q, q < W.heap.size → q ≠ w.heap.size → some q ≠ v.ownBlock → (w8.setCell ⟨w.heap.size, 0, none⟩ v8).heap[q]? = W.heap[q]? := fun q h1 h2 h3 => by
    rw [heap_setCell_other w8 _ _ v8 h2, hg8.block q (by rw [World.size_alloc]; omega) h3, Below.heap_alloc w2 _ q (by omega), hb2.block q h1]
  have hcells : ∀ q, some q = v.ownBlock → W0.heap.size ≤ q ∧ ∃ cs e f, W.heap[q]? = some (.cells cs e f) := fun q h => by
    rcases hown.2 with ⟨rfl, _⟩ | ⟨g, cap, cur, rfl, hb, hgb, _⟩
    · cases h
    · obtain rfl : q = g := by simpa [Value.ownBlock] using h
      exact ⟨hb, _, _, _, hgb⟩
  refine ⟨⟨by rw [hset]; omega, fun q o hq hqo ho => ?_⟩, fun q h1 h2 => ?_, ⟨v8, (lin_box hs hbx hown hb2 hg8).set_ 0 v8, ?_⟩, ?_, by rw [hset]; omega⟩
  · have hlt : q < W.heap.size := (Array.getElem?_eq_some_iff.1 hqo).1
    rw [hkeep q hlt (by omega) (fun e => by
      obtain ⟨_, cs, e', f, h9⟩ := hcells q e
      rw [h9] at hqo; cases hqo; cases ho)]
    exact hqo
  · exact hkeep q (by omega) (by omega) (fun e => by have := (hcells q e).1; omega)
  · have h5 := ho8.kept (grownBy_setCell' w8 w.heap.size v8) (.inr fun e => by have := (ho8.lt _ e).1; omega)
    rw [List.length_append, List.length_singleton]
    unfold lnv at h5 ⊢
    rw [List.map_append, List.map_append, List.map_append]
    exact h5
  · have h6 : Below w.heap.size w w8 := ((hB.trans (hb2.mono hB.size)).alloc (by omega) _).grown hg8 (by rw [World.size_alloc]; omega) (fun q e => by have := (hcells q e.symm).1; omega)
    exact h6.setCell (p := ⟨w.heap.size, 0, none⟩) (Nat.le_refl _) v8
set_option maxRecDepth 100000 in
set_option maxHeartbeats 8000000 in
theorem polyLines_any (s : ByteArray) (w : World) (hs : s.size ≤ 600) : Calls Tryd.prog 5 #[.string s] w (LinesPost s w) := by
  have k1 : decide ((600 : Int) < (s.size : Int)) = false := decide_eq_false (by omega)
  have k2 : decide (600 < s.size) = false := decide_eq_false (by omega)
  refine (callsIn_wide (n := 5)).1 ?_
  have hro : Fence.wide.round = none := rfl
  refine callsIn_of_wp_marks Tryd.func5 rfl trivial ?_ hro
  simp only [Tryd.ntmps5, List.size_toArray, List.length_cons, List.length_nil, Nat.reduceAdd, Nat.reduceSub, Array.replicate_succ, Array.replicate_zero, List.push_toArray, List.append_toArray, List.nil_append, List.cons_append]
  gi_wp2
  refine ⟨trivial, CallsIn.mono (callsIn_wide.2 (seqOf_any s _)) ?_⟩
  rintro e w1 ⟨rfl, rfl⟩
  unfold itf
  gi_wp2
  have B0 := Blk.new w 22 #[.slice none 0 0]
  have E1 := Blk.new (w.alloc (.cells #[.slice none 0 0] 22)) 9 #[.string s]
  have E2 := Blk.new ((w.alloc (.cells #[.slice none 0 0] 22)).alloc (.cells #[.string s] 9)) 9 #[.string ⟨#[10]⟩]
  have E3 := Blk.new (((w.alloc (.cells #[.slice none 0 0] 22)).alloc (.cells #[.string s] 9)).alloc (.cells #[.string ⟨#[10]⟩] 9)) 3 #[.int .i64 0]
  simp only [World.size_alloc] at E1 E2 E3
  have C0 := ((B0.alloc (.cells #[.string s] 9)).alloc (.cells #[.string ⟨#[10]⟩] 9)).alloc (.cells #[.int .i64 0] 3)
  have C1 := (E1.alloc (.cells #[.string ⟨#[10]⟩] 9)).alloc (.cells #[.int .i64 0] 3)
  have C2 := E2.alloc (.cells #[.int .i64 0] 3)
  have hbW : Below w.heap.size w ((((w.alloc (.cells #[.slice none 0 0] 22)).alloc (.cells #[.string s] 9)).alloc (.cells #[.string ⟨#[10]⟩] 9)).alloc (.cells #[.int .i64 0] 3)) :=
    ((((Below.refl _ _).alloc (Nat.le_refl _) _).alloc (by simp) _).alloc (by simp; omega) _).alloc (by simp; omega) _
  have hsz : ((((w.alloc (.cells #[.slice none 0 0] 22)).alloc (.cells #[.string s] 9)).alloc (.cells #[.string ⟨#[10]⟩] 9)).alloc (.cells #[.int .i64 0] 3)).heap.size = w.heap.size + 4 := by simp
  generalize ((((w.alloc (.cells #[.slice none 0 0] 22)).alloc (.cells #[.string s] 9)).alloc (.cells #[.string ⟨#[10]⟩] 9)).alloc (.cells #[.int .i64 0] 3)) = W0 at *
  have HSZ := Lib.hid hsz
  have hsz1 : w.heap.size + 4 ≤ W0.heap.size := by omega
  clear B0 E1 E2 hsz
  refine range_split (by omega) s hs (w.heap.size + 1) rfl (by omega) C1 C2 E3 rfl (LinI w W0) (linI_bears w W0 hsz1) ⟨⟨_, C0, World.ownsRow_nil _ _ _ _⟩, hbW, Nat.le_refl _⟩
    (fun x => { tmps := #[.string s, undef, .slice none 0 0, .int .i64 0, .pointer (some ⟨w.heap.size, 0, none⟩), .string x, .string s, .int .i64 (s.size : Int), .bool false, .string s,
      .func (.func 18) #[] #[.pointer (some ⟨w.heap.size + 1 + 1, 0, none⟩), .pointer (some ⟨w.heap.size + 1, 0, none⟩), .pointer (some ⟨w.heap.size + 1 + 2, 0, none⟩)], .string x, undef, undef, undef, undef, undef, undef, undef], defers := [] }) ?assign ?body ?done
  case assign =>
    intro l x W K hK
    gi_wp2
    exact hK
  case body =>
    rintro l pre x W hx hpl ⟨⟨v, hbx, hown⟩, hB, hle⟩
    have HP := Lib.hid (fun W => polyOf_any x W (by unfold maxLen; omega))
    have c0 : W.cell? ⟨w.heap.size, 0, none⟩ = some v := hbx.cell 0
    have mixed : Tryd.prog.follows Departure.mixedOrders = true := by kernel_rfl
    clear C0 C1 C2 E3
    gi_wp2
    refine wpIn_region_any mixed ?_
    change wpAnyIn _ _ _ _ _ _ _ _ _ (World.drew _)
    refine wpAnyIn_ready (rs := [0, 1]) (by kernel_rfl) (by simp) ?_
    refine AllReadyIn.cons rfl (fun K hK => ?_) (AllReadyIn.cons rfl (fun K hK => ?_) AllReadyIn.nil)
    · go_simp
      refine hK _ _ ?_
      clear hK K
      refine wpAnyIn_ready (rs := [1]) (by kernel_rfl) (by simp) ?_
      refine AllReadyIn.cons rfl (fun K hK => ?_) AllReadyIn.nil
      go_simp
      refine hK _ _ ?_
      clear hK K
      refine wpAnyIn_ready (rs := [2]) (by kernel_rfl) (by simp) ?_
      refine AllReadyIn.cons rfl (fun K hK => ?_) AllReadyIn.nil
      go_simp
      refine ⟨trivial, CallsIn.mono (CallsIn.inRound l (callsIn_wide.2 (HP.out _))) ?_⟩
      rintro e w2 ⟨rfl, hb2'⟩
      have hb2 : Below W.heap.size W w2 := (Below.drew (Below.refl _ W)).trans hb2'
      have d0 : w2.cell? ⟨w.heap.size, 0, none⟩ = some v := (hb2.cell (p := ⟨w.heap.size, 0, none⟩) hbx.lt).trans c0
      refine hK _ _ ?_
      clear hK K hb2'
      refine wpAnyIn_ready (rs := [3]) (by kernel_rfl) (by simp) ?_
      refine AllReadyIn.cons rfl (fun K hK => ?_) AllReadyIn.nil
      go_simp
      refine hK _ _ ?_
      clear hK K
      refine wpAnyIn_ready (rs := [4]) (by kernel_rfl) (by simp) ?_
      refine AllReadyIn.cons rfl (fun K hK => ?_) AllReadyIn.nil
      go_simp
      refine hK _ _ ?_
      clear hK K
      refine wpAnyIn_ready (rs := [5]) (by kernel_rfl) (by simp) ?_
      refine AllReadyIn.cons rfl (fun K hK => ?_) AllReadyIn.nil
      rw [if_pos (by simp [Region.wanted])]
      have hsz2 := hb2.size
      refine opIn_append1 (.tmp 12) (.tmp 16) _ rfl W0.heap.size 3 _ 8 Tryd.underlying22 pint_info rfl v pre.length _ rfl (hown.kept (grown_of_below hb2 none) (by cases v.ownBlock <;> simp)) _ rfl rfl rfl (by omega) (by omega) (by omega) ?_
      intro v8 w8 ho8 hg8
      refine hK _ _ ?_
      clear hK K
      have hbx8 := lin_box hsz1 hbx hown hb2 hg8
      have e8 : w8.cell? ⟨w.heap.size, 0, none⟩ = some v := hbx8.cell 0
      have f8 := hbx8.frozen 0
      obtain ⟨A8, c8, rfl, _, _⟩ := own_slice ho8
      refine wpAnyIn_ready (rs := [6]) (by kernel_rfl) (by simp) ?_
      refine AllReadyIn.cons rfl (fun K hK => ?_) AllReadyIn.nil
      go_simp
      refine hK _ _ ?_
      clear hK K
      refine wpAnyIn_done (by kernel_rfl) ?_ _
      exact lin_leaf hsz1 hbx hown hB hle hb2 ho8 hg8
    · go_simp
      refine hK _ _ ?_
      clear hK K
      refine wpAnyIn_ready (rs := [0, 2]) (by kernel_rfl) (by simp) ?_
      refine AllReadyIn.cons rfl (fun K hK => ?_) (AllReadyIn.cons rfl (fun K hK => ?_) AllReadyIn.nil)
      · go_simp
        refine hK _ _ ?_
        clear hK K
        refine wpAnyIn_ready (rs := [2]) (by kernel_rfl) (by simp) ?_
        refine AllReadyIn.cons rfl (fun K hK => ?_) AllReadyIn.nil
        go_simp
        refine ⟨trivial, CallsIn.mono (CallsIn.inRound l (callsIn_wide.2 (HP.out _))) ?_⟩
        rintro e w2 ⟨rfl, hb2'⟩
        have hb2 : Below W.heap.size W w2 := (Below.drew (Below.refl _ W)).trans hb2'
        have d0 : w2.cell? ⟨w.heap.size, 0, none⟩ = some v := (hb2.cell (p := ⟨w.heap.size, 0, none⟩) hbx.lt).trans c0
        refine hK _ _ ?_
        clear hK K hb2'
        refine wpAnyIn_ready (rs := [3]) (by kernel_rfl) (by simp) ?_
        refine AllReadyIn.cons rfl (fun K hK => ?_) AllReadyIn.nil
        go_simp
        refine hK _ _ ?_
        clear hK K
        refine wpAnyIn_ready (rs := [4]) (by kernel_rfl) (by simp) ?_
        refine AllReadyIn.cons rfl (fun K hK => ?_) AllReadyIn.nil
        go_simp
        refine hK _ _ ?_
        clear hK K
        refine wpAnyIn_ready (rs := [5]) (by kernel_rfl) (by simp) ?_
        refine AllReadyIn.cons rfl (fun K hK => ?_) AllReadyIn.nil
        rw [if_pos (by simp [Region.wanted])]
        have hsz2 := hb2.size
        refine opIn_append1 (.tmp 12) (.tmp 16) _ rfl W0.heap.size 3 _ 8 Tryd.underlying22 pint_info rfl v pre.length _ rfl (hown.kept (grown_of_below hb2 none) (by cases v.ownBlock <;> simp)) _ rfl rfl rfl (by omega) (by omega) (by omega) ?_
        intro v8 w8 ho8 hg8
        refine hK _ _ ?_
        clear hK K
        have hbx8 := lin_box hsz1 hbx hown hb2 hg8
        have e8 : w8.cell? ⟨w.heap.size, 0, none⟩ = some v := hbx8.cell 0
        have f8 := hbx8.frozen 0
        obtain ⟨A8, c8, rfl, _, _⟩ := own_slice ho8
        refine wpAnyIn_ready (rs := [6]) (by kernel_rfl) (by simp) ?_
        refine AllReadyIn.cons rfl (fun K hK => ?_) AllReadyIn.nil
        go_simp
        refine hK _ _ ?_
        clear hK K
        refine wpAnyIn_done (by kernel_rfl) ?_ _
        exact lin_leaf hsz1 hbx hown hB hle hb2 ho8 hg8
      · go_simp
        refine ⟨trivial, CallsIn.mono (CallsIn.inRound l (callsIn_wide.2 (HP.out _))) ?_⟩
        rintro e w2 ⟨rfl, hb2'⟩
        have hb2 : Below W.heap.size W w2 := (Below.drew (Below.refl _ W)).trans hb2'
        have d0 : w2.cell? ⟨w.heap.size, 0, none⟩ = some v := (hb2.cell (p := ⟨w.heap.size, 0, none⟩) hbx.lt).trans c0
        refine hK _ _ ?_
        clear hK K hb2'
        refine wpAnyIn_ready (rs := [0, 3]) (by kernel_rfl) (by simp) ?_
        refine AllReadyIn.cons rfl (fun K hK => ?_) (AllReadyIn.cons rfl (fun K hK => ?_) AllReadyIn.nil)
        · go_simp
          refine hK _ _ ?_
          clear hK K
          refine wpAnyIn_ready (rs := [3]) (by kernel_rfl) (by simp) ?_
          refine AllReadyIn.cons rfl (fun K hK => ?_) AllReadyIn.nil
          go_simp
          refine hK _ _ ?_
          clear hK K
          refine wpAnyIn_ready (rs := [4]) (by kernel_rfl) (by simp) ?_
          refine AllReadyIn.cons rfl (fun K hK => ?_) AllReadyIn.nil
          go_simp
          refine hK _ _ ?_
          clear hK K
          refine wpAnyIn_ready (rs := [5]) (by kernel_rfl) (by simp) ?_
          refine AllReadyIn.cons rfl (fun K hK => ?_) AllReadyIn.nil
          rw [if_pos (by simp [Region.wanted])]
          have hsz2 := hb2.size
          refine opIn_append1 (.tmp 12) (.tmp 16) _ rfl W0.heap.size 3 _ 8 Tryd.underlying22 pint_info rfl v pre.length _ rfl (hown.kept (grown_of_below hb2 none) (by cases v.ownBlock <;> simp)) _ rfl rfl rfl (by omega) (by omega) (by omega) ?_
          intro v8 w8 ho8 hg8
          refine hK _ _ ?_
          clear hK K
          have hbx8 := lin_box hsz1 hbx hown hb2 hg8
          have e8 : w8.cell? ⟨w.heap.size, 0, none⟩ = some v := hbx8.cell 0
          have f8 := hbx8.frozen 0
          obtain ⟨A8, c8, rfl, _, _⟩ := own_slice ho8
          refine wpAnyIn_ready (rs := [6]) (by kernel_rfl) (by simp) ?_
          refine AllReadyIn.cons rfl (fun K hK => ?_) AllReadyIn.nil
          go_simp
          refine hK _ _ ?_
          clear hK K
          refine wpAnyIn_done (by kernel_rfl) ?_ _
          exact lin_leaf hsz1 hbx hown hB hle hb2 ho8 hg8
        · go_simp
          refine hK _ _ ?_
          clear hK K
          refine wpAnyIn_ready (rs := [0, 4]) (by kernel_rfl) (by simp) ?_
          refine AllReadyIn.cons rfl (fun K hK => ?_) (AllReadyIn.cons rfl (fun K hK => ?_) AllReadyIn.nil)
          · go_simp
            refine hK _ _ ?_
            clear hK K
            refine wpAnyIn_ready (rs := [4]) (by kernel_rfl) (by simp) ?_
            refine AllReadyIn.cons rfl (fun K hK => ?_) AllReadyIn.nil
            go_simp
            refine hK _ _ ?_
            clear hK K
            refine wpAnyIn_ready (rs := [5]) (by kernel_rfl) (by simp) ?_
            refine AllReadyIn.cons rfl (fun K hK => ?_) AllReadyIn.nil
            rw [if_pos (by simp [Region.wanted])]
            have hsz2 := hb2.size
            refine opIn_append1 (.tmp 12) (.tmp 16) _ rfl W0.heap.size 3 _ 8 Tryd.underlying22 pint_info rfl v pre.length _ rfl (hown.kept (grown_of_below hb2 none) (by cases v.ownBlock <;> simp)) _ rfl rfl rfl (by omega) (by omega) (by omega) ?_
            intro v8 w8 ho8 hg8
            refine hK _ _ ?_
            clear hK K
            have hbx8 := lin_box hsz1 hbx hown hb2 hg8
            have e8 : w8.cell? ⟨w.heap.size, 0, none⟩ = some v := hbx8.cell 0
            have f8 := hbx8.frozen 0
            obtain ⟨A8, c8, rfl, _, _⟩ := own_slice ho8
            refine wpAnyIn_ready (rs := [6]) (by kernel_rfl) (by simp) ?_
            refine AllReadyIn.cons rfl (fun K hK => ?_) AllReadyIn.nil
            go_simp
            refine hK _ _ ?_
            clear hK K
            refine wpAnyIn_done (by kernel_rfl) ?_ _
            exact lin_leaf hsz1 hbx hown hB hle hb2 ho8 hg8
          · go_simp
            refine hK _ _ ?_
            clear hK K
            have d1 : (w2.alloc (.cells #[.int .i64 (hv x.data.toList)] 3)).cell? ⟨w.heap.size, 0, none⟩ = some v := (World.cell?_alloc_lt _ _ _ (by show w.heap.size < w2.heap.size; have := hb2.size; have := hbx.lt; omega)).trans d0
            refine wpAnyIn_ready (rs := [0]) (by kernel_rfl) (by simp) ?_
            refine AllReadyIn.cons rfl (fun K hK => ?_) AllReadyIn.nil
            go_simp
            refine hK _ _ ?_
            clear hK K
            refine wpAnyIn_ready (rs := [5]) (by kernel_rfl) (by simp) ?_
            refine AllReadyIn.cons rfl (fun K hK => ?_) AllReadyIn.nil
            rw [if_pos (by simp [Region.wanted])]
            have hsz2 := hb2.size
            refine opIn_append1 (.tmp 12) (.tmp 16) _ rfl W0.heap.size 3 _ 8 Tryd.underlying22 pint_info rfl v pre.length _ rfl (hown.kept (grown_of_below hb2 none) (by cases v.ownBlock <;> simp)) _ rfl rfl rfl (by omega) (by omega) (by omega) ?_
            intro v8 w8 ho8 hg8
            refine hK _ _ ?_
            clear hK K
            have hbx8 := lin_box hsz1 hbx hown hb2 hg8
            have e8 : w8.cell? ⟨w.heap.size, 0, none⟩ = some v := hbx8.cell 0
            have f8 := hbx8.frozen 0
            obtain ⟨A8, c8, rfl, _, _⟩ := own_slice ho8
            refine wpAnyIn_ready (rs := [6]) (by kernel_rfl) (by simp) ?_
            refine AllReadyIn.cons rfl (fun K hK => ?_) AllReadyIn.nil
            go_simp
            refine hK _ _ ?_
            clear hK K
            refine wpAnyIn_done (by kernel_rfl) ?_ _
            exact lin_leaf hsz1 hbx hown hB hle hb2 ho8 hg8
  case done =>
    rintro D ys W hD hys ⟨⟨v, hbx, hown⟩, hB, hle⟩ hK
    have c0 : W.cell? ⟨w.heap.size, 0, none⟩ = some v := hbx.cell 0
    have hlen : ys.length = (spl s.data.toList).length := by have := congrArg List.length hys; simpa using this
    have hown2 : W.ownsRow W0.heap.size 3 1 v (spl s.data.toList).length ((lnv (spl s.data.toList)).map (.int .i64)) := by rw [← hys, List.length_map]; exact hown
    clear C0 C1 C2 E3
    obtain ⟨A2, c2, rfl, hA1, hA2⟩ := own_slice hown2
    gi_wp2
    refine ⟨by simp, .inl ⟨_, _, rfl, run_takeDeferred hK, ?_⟩⟩
    refine ⟨_, results_tmp2 rfl _ _ _, _, rfl, ?_, ?_⟩
    · exact own_mono (ownsRow_putObj hown2 _ hK rfl) (by omega)
    · exact hB.trans (belowK_b (w := w) (Nat.le_refl _) W D _ _ (by omega) hK rfl rfl)
end Go.Proofs.YtpjpckhmjonehaaDoor
