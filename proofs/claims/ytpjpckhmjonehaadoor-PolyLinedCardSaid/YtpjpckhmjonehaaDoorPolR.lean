/-
  A range over the iterator of strings.SplitSeq at line ends: the iterator stores into a box of its own between the rounds.
-/
import Derived.Test.YtpjpckhmjonehaaDoorPolS
namespace Go.Proofs.YtpjpckhmjonehaaDoor
open Go.RowKit Go.Shelf
set_option linter.unusedVariables false
set_option linter.unusedSimpArgs false

/-- What a caller holds on to while such a range runs: it bears new blocks, stores into the iterator's box, and turns of what is no cells. -/
structure Bears (w : World) (b0 : Nat) (I : List ByteArray → World → Prop) : Prop where
  new : ∀ pre W o, I pre W → I pre (W.alloc o)
  box : ∀ pre W v, I pre W → I pre (W.setCell ⟨b0, 0, none⟩ v)
  turn : ∀ pre W l o o', I pre W → w.heap.size ≤ l → W.heap[l]? = some o → o.isCells = false → I pre (W.putObj l o')
/-- What a round leaves. -/
def RoundEnd (w : World) (b0 : Nat) (I : List ByteArray → World → Prop) (xs : List ByteArray) (W : World) : Exit → Act → World → Prop
  | .normal, _, W' => KeepsFrom w.heap.size W W' ∧ (∀ q, b0 ≤ q → q < b0 + 3 → W'.heap[q]? = W.heap[q]?) ∧ I xs W'
  | _, _, _ => False
set_option maxHeartbeats 2000000 in
theorem range_split {n : Nat} {g : Operand} {ps : Array Tmp} {assign body : Code} {Q : Exit → Act → World → Prop} {a : Act} {w : World} (h1 : 1 ≤ n) (s : ByteArray) (hs : s.size ≤ 600) (b0 : Nat)
    (hg : a.eval g = .func (.func 18) #[] #[.pointer (some ⟨b0 + 1, 0, none⟩), .pointer (some ⟨b0, 0, none⟩), .pointer (some ⟨b0 + 2, 0, none⟩)]) (hb0 : b0 + 3 ≤ w.heap.size)
    (B1 : Blk w b0 9 #[.string s]) (B2 : Blk w (b0 + 1) 9 #[.string ⟨#[10]⟩]) (B3 : Blk w (b0 + 2) 3 #[.int .i64 0]) (hps : ps.size = 1)
    (I : List ByteArray → World → Prop) (HB : Bears w b0 I) (h0 : I [] w) (a₁ : ByteArray → Act)
    (hassign : ∀ (l : Nat) (x : ByteArray) (W : World) (K : Act → World → Prop), K (a₁ x) W →
      assign.wpIn (Fence.wide.inRound l) (n - 1 - 1) Tryd.prog (Exit.then K (fun _ _ _ => False)) { tmps := (ps.zip #[.string x]).foldl (fun t (p, v) => t.setIfInBounds p v) a.tmps, defers := [] } W)
    (hbody : ∀ (l : Nat) (pre : List ByteArray) (x : ByteArray) (W : World), x.size ≤ 600 → pre.length ≤ 600 → I pre W → body.wpIn (Fence.wide.inRound l) (n - 1 - 1) Tryd.prog (RoundEnd w b0 I (pre ++ [x]) W) (a₁ x) W)
    (hdone : ∀ (D : Nat) (xs : List ByteArray) (W : World), w.heap.size ≤ D → xs.map (fun x => x.data.toList) = spl s.data.toList → I xs W → W.heap[D]? = some (.deferred (some [])) → Q .normal { a with defers := { target := .collected D, args := #[] } :: a.defers } W) :
    (Code.rangeFunc g ps assign body).wpIn Fence.wide n Tryd.prog Q a w := by
  refine wpIn_rangeFunc ?_
  intro fn hfn
  obtain ⟨mk, hmk⟩ : ∃ mk : LoopState → Option Code → Loop, mk = fun st pe => { state := st, pending := pe, fn, tmps := a.tmps, params := ps, assign, body, defers := w.heap.size } := ⟨_, rfl⟩
  obtain ⟨V, hV⟩ : ∃ V, (w.alloc (.deferred (some []))).alloc (.loop (mk .ready none)) = V := ⟨_, rfl⟩
  have hsz : V.heap.size = w.heap.size + 2 := by rw [← hV]; simp
  have hold : ∀ k, k < w.heap.size → V.heap[k]? = w.heap[k]? := fun k hk => by
    rw [← hV, Below.heap_alloc _ _ k (by simp; omega), Below.heap_alloc _ _ k hk]
  have hL : V.heap[w.heap.size + 1]? = some (.loop (mk .ready none)) := by
    rw [← hV]
    have := World.alloc_heap_new (w.alloc (.deferred (some []))) (.loop (mk .ready none))
    rwa [World.size_alloc] at this
  have hD : V.heap[w.heap.size]? = some (.deferred (some [])) := by
    rw [← hV]
    exact (Below.heap_alloc _ _ _ (by simp)).trans (World.alloc_heap_new w _)
  have hI : I [] V := by rw [← hV]; exact HB.new _ _ _ (HB.new _ _ _ h0)
  have eg : ∀ args w, (callFunc 18 args).run Tryd.prog w = .ok (.enter 18 args) w := enters_of Tryd.func18 (by kernel_rfl) rfl
  refine ⟨w.heap.size + 1, [{ target := .collected w.heap.size, args := #[] }], V, { target := .fn (.func 18) #[.pointer (some ⟨b0 + 1, 0, none⟩), .pointer (some ⟨b0, 0, none⟩), .pointer (some ⟨b0 + 2, 0, none⟩)], args := #[.func (.yield (w.heap.size + 1)) #[] #[]] }, V, 18,
    #[.func (.yield (w.heap.size + 1)) #[] #[]] ++ #[.pointer (some ⟨b0 + 1, 0, none⟩), .pointer (some ⟨b0, 0, none⟩), .pointer (some ⟨b0 + 2, 0, none⟩)], V, ?_, ?_, fun _ _ => trivial, ?_, fun _ => h1, ?_⟩
  · rw [← hV, hmk]; exact run_enterLoop_outer _ _ _ _ _
  · simp only [resolve, hg]
    simp [go_sem]
  · simp [invoke, go_sem, eg]
  · refine CallsIn.mono (split_in (n - 1) (w.heap.size + 1) (fun pre W => I pre W ∧ W.heap[w.heap.size + 1]? = some (.loop (mk .ready none)) ∧ W.heap[w.heap.size]? = some (.deferred (some []))) V s hs b0
      (fun pre W v h => ⟨HB.box _ _ _ h.1, (heap_setCell_other W _ _ v (by show w.heap.size + 1 ≠ b0; omega)).trans h.2.1, (heap_setCell_other W _ _ v (by show w.heap.size ≠ b0; omega)).trans h.2.2⟩) ?_
      ((hold b0 (by omega)).trans B1) ((hold (b0 + 1) (by omega)).trans B2) ((hold (b0 + 2) (by omega)).trans B3) ⟨hI, hL, hD⟩) ?_
    · rintro pre x W hx6 hpl ⟨hi, hl, hk⟩
      have hlt : w.heap.size + 1 < W.heap.size := (Array.getElem?_eq_some_iff.1 hl).1
      have hy := run_yield (P := Tryd.prog) (args := #[.string x]) hl (by rw [hmk]; exact hps.symm)
      rw [hmk] at hy
      refine ⟨fn, _, assign, body, hy, roundIn_of_wpIn hfn (hassign _ x W _ ⟨_, run_beginRound hl (by rw [hmk]), ?_⟩)⟩
      obtain ⟨U, hU⟩ : ∃ U, W.putObj (w.heap.size + 1) (.loop { mk .ready none with state := .busy }) = U := ⟨_, rfl⟩
      have l2 : U.heap[w.heap.size + 1]? = some (.loop { mk .ready none with state := .busy }) := by rw [← hU]; exact World.putObj_heap_same hlt
      have k2 : U.heap[w.heap.size]? = some (.deferred (some [])) := by rw [← hU]; exact (World.putObj_heap_other (by omega)).trans hk
      have i2 : I pre U := by rw [← hU]; exact HB.turn _ _ _ _ _ hi (by omega) hl rfl
      have q2 : ∀ q, b0 ≤ q → q < b0 + 3 → U.heap[q]? = W.heap[q]? := fun q ha hb => by rw [← hU]; exact World.putObj_heap_other (by omega)
      rw [hU]
      refine wpIn_mono (hbody _ pre x U hx6 hpl i2) ?_
      rintro e a3 W3 hp
      cases e with
      | normal =>
        obtain ⟨hk3, hq3, hi3⟩ := hp
        have l3 := hk3.same _ _ (by omega) l2 rfl
        have r3 := run_endRound (P := Tryd.prog) none l3
        rw [hmk] at r3 l3 ⊢
        refine ⟨_, _, r3, rfl, ⟨HB.turn _ _ _ _ _ hi3 (by omega) l3 rfl, World.putObj_heap_same (Array.getElem?_eq_some_iff.1 l3).1, (World.putObj_heap_other (by omega)).trans (hk3.same _ _ (Nat.le_refl _) k2 rfl)⟩, fun q ha hb => ?_⟩
        exact (World.putObj_heap_other (by omega)).trans ((hq3 q ha hb).trans (q2 q ha hb))
      | ret => exact hp.elim
      | exit id => exact hp.elim
      | goto t => exact hp.elim
      | panic ch => exact hp.elim
      | outgrown => exact hp.elim
    · rintro e W2 ⟨⟨v, rfl⟩, xs, hx, hi, hl, hk⟩
      have r := run_endLoop (P := Tryd.prog) hl (by rw [hmk]; simp)
      rw [hmk] at r
      exact ⟨none, _, r, hdone _ xs _ (Nat.le_refl _) hx (HB.turn _ _ _ _ _ hi (by omega) hl rfl) ((World.putObj_heap_other (by omega)).trans hk)⟩
end Go.Proofs.YtpjpckhmjonehaaDoor
