/-
  The machine of many finds: a word more.
-/
import Derived.Test.YtacjckocjngfoaaMchS
namespace Go.Proofs.Ytacjckocjngfoaa
open Go.RowKit Go.WideMaps Go.Maps Go.ChangeShapes Go.ChangeMaps
set_option linter.unusedVariables false
set_option linter.unusedSimpArgs false

def upd {α : Type} (f : List UInt8 → α) (x : List UInt8) (a : α) : List UInt8 → α := fun v => if v = x then a else f v
theorem upd_self {α : Type} (f : List UInt8 → α) (x : List UInt8) (a : α) : upd f x a x = a := if_pos rfl
theorem upd_ne {α : Type} (f : List UInt8 → α) {x v : List UInt8} (a : α) (h : v ≠ x) : upd f x a v = f v := if_neg h
theorem snoc_inj {u v : List UInt8} {c d : UInt8} (h : v ++ [d] = u ++ [c]) : v = u ∧ d = c := by
  have := List.append_inj' h rfl
  exact ⟨this.1, by simpa using this.2⟩
section
variable {W W2 W3 : World} {B n : Nat} {l : List (List UInt8)} {S M : List UInt8 → Nat} {fd : List UInt8 → Int} {bk : List UInt8 → Value}
theorem Mch.add (h : Mch W B n l S M fd bk) (ht : Trie l) {u : List UInt8} {c : UInt8} (hu : u ∈ l) (hn : ¬ u ++ [c] ∈ l) (hB : B ≤ W.heap.size)
    {m s : Nat} (hm : W.heap.size ≤ m) (hs : W.heap.size ≤ s) (hms : m ≠ s) (hW2 : Below W.heap.size W W2) (hmp : MapAt W2 m 0 (fun _ => none)) (hbl : Blk W2 s 46 #[.map (some m), .pointer none, .int .i64 (-1), .int .i64 ((u.length : Int) + 1)])
    (hg : W2.grownBy W3 (some (M u))) (hmu : MapAt W3 (M u) (n + 1) (fun d => if d = c then some s else if u ++ [d] ∈ l then some (S (u ++ [d])) else none)) :
    Mch W3 B (n + 1) (l ++ [u ++ [c]]) (upd S (u ++ [c]) s) (upd M (u ++ [c]) m) (upd fd (u ++ [c]) (-1)) (upd bk (u ++ [c]) (.pointer none)) := by
  have h2 := h.below hW2 fun v hv => h.lt hv
  have hne : ∀ v ∈ l, v ≠ u ++ [c] := fun v hv e => hn (e ▸ hv)
  have hkid : ∀ v d, v ≠ u → ((if v ++ [d] ∈ l ++ [u ++ [c]] then some (upd S (u ++ [c]) s (v ++ [d])) else none) = if v ++ [d] ∈ l then some (S (v ++ [d])) else none) := fun v d hv => by
    have e1 : v ++ [d] ≠ u ++ [c] := fun e => hv (snoc_inj e).1
    rw [upd_ne _ _ e1]
    simp only [List.mem_append, List.mem_singleton, e1, or_false]
  have hM : ∀ v ∈ l, v ≠ u → M v ≠ M u := fun v hv e => (h.inj v hv u hu e).2
  refine ⟨fun v hv => ?_, fun v hv => ?_, fun v hv v' hv' hvv => ?_, fun v hv => ?_⟩
  · rcases List.mem_append.1 hv with hv | hv
    · rw [upd_ne _ _ (hne v hv), upd_ne _ _ (hne v hv), upd_ne _ _ (hne v hv), upd_ne _ _ (hne v hv)]
      exact (h2.blk v hv).grown hg (fun e => h.sm hv hu (Option.some.inj e))
    · rw [List.mem_singleton.1 hv, upd_self, upd_self, upd_self, upd_self]
      have := hbl.grown hg (fun e => by have := (h.lt hu).2; have := Option.some.inj e; omega)
      simpa using this
  · rcases List.mem_append.1 hv with hv | hv
    · rw [upd_ne _ _ (hne v hv)]
      by_cases e : v = u
      · subst e
        have : (fun d => if v ++ [d] ∈ l ++ [v ++ [c]] then some (upd S (v ++ [c]) s (v ++ [d])) else none) = fun d => if d = c then some s else if v ++ [d] ∈ l then some (S (v ++ [d])) else none := by
          funext d
          by_cases e : d = c
          · subst e
            rw [if_pos (by simp), upd_self, if_pos rfl]
          · have e1 : v ++ [d] ≠ v ++ [c] := fun e' => e (snoc_inj e').2
            rw [upd_ne _ _ e1, if_neg e]
            simp only [List.mem_append, List.mem_singleton, e1, or_false]
        rw [this]
        exact hmu
      · rw [show (fun d => if v ++ [d] ∈ l ++ [u ++ [c]] then some (upd S (u ++ [c]) s (v ++ [d])) else none) = fun d => if v ++ [d] ∈ l then some (S (v ++ [d])) else none from funext fun d => hkid v d e]
        exact ((h2.mp v hv).kept hg (fun e' => hM v hv e (Option.some.inj e'))).mono (by omega)
    · rw [List.mem_singleton.1 hv, upd_self]
      have : (fun d => if u ++ [c] ++ [d] ∈ l ++ [u ++ [c]] then some (upd S (u ++ [c]) s (u ++ [c] ++ [d])) else none) = fun _ => none := by
        funext d
        rw [if_neg]
        intro hh
        rcases List.mem_append.1 hh with hh | hh
        · exact hn (ht.up _ _ hh)
        · have := congrArg List.length (List.mem_singleton.1 hh); simp at this
      rw [this]
      exact (hmp.kept hg (fun e' => by have := (h.lt hu).2; have := Option.some.inj e'; omega)).mono (by omega)
  · rcases List.mem_append.1 hv with hv | hv <;> rcases List.mem_append.1 hv' with hv' | hv'
    · rw [upd_ne _ _ (hne v hv), upd_ne _ _ (hne v hv), upd_ne _ _ (hne v' hv'), upd_ne _ _ (hne v' hv')]
      exact h.inj v hv v' hv' hvv
    · rw [List.mem_singleton.1 hv', upd_self, upd_self, upd_ne _ _ (hne v hv), upd_ne _ _ (hne v hv)]
      have := h.lt hv
      exact ⟨by omega, by omega⟩
    · rw [List.mem_singleton.1 hv, upd_self, upd_self, upd_ne _ _ (hne v' hv'), upd_ne _ _ (hne v' hv')]
      have := h.lt hv'
      exact ⟨by omega, by omega⟩
    · exact absurd ((List.mem_singleton.1 hv).trans (List.mem_singleton.1 hv').symm) hvv
  · rcases List.mem_append.1 hv with hv | hv
    · rw [upd_ne _ _ (hne v hv), upd_ne _ _ (hne v hv)]
      exact h.low v hv
    · rw [List.mem_singleton.1 hv, upd_self, upd_self]
      exact ⟨by omega, by omega⟩
end
/-- The machine while it is built: of the first i finds. -/
structure Bld (w W : World) (R : Nat) (fs : List ByteArray) (i n : Nat) (l : List (List UInt8)) (S M : List UInt8 → Nat) (fd : List UInt8 → Int) (bk : List UInt8 → Value) : Prop where
  m : Mch W w.heap.size n l S M fd bk
  t : Trie l
  nd : l.Nodup
  root : S [] = R
  bk0 : bk [] = .pointer (some ⟨R, 0, none⟩)
  fin : ∀ j (h : j < fs.length), j < i → fs[j].data.toList ∈ l ∧ fd fs[j].data.toList = (j : Int)
  fd_ : ∀ u ∈ l, fd u = -1 ∨ ∃ j, ∃ h : j < fs.length, j < i ∧ fd u = (j : Int) ∧ fs[j].data.toList = u
  len : ∀ u ∈ l, u.length ≤ 10
  nb : n ≤ l.length
  b : Below w.heap.size w W
theorem Bld.start (w : World) (fs : List ByteArray) : Bld w ((w.alloc (.map #[] 0)).alloc (.cells #[.map (some w.heap.size), .pointer (some ⟨w.heap.size + 1, 0, none⟩), .int .i64 (-1), .int .i64 0] 46)) (w.heap.size + 1) fs 0 0 [[]] (fun _ => w.heap.size + 1) (fun _ => w.heap.size) (fun _ => -1) (fun _ => .pointer (some ⟨w.heap.size + 1, 0, none⟩)) := by
  have b1 : Below w.heap.size w (w.alloc (.map #[] 0)) := (Below.refl _ _).alloc (Nat.le_refl _) _
  have b2 := b1.alloc b1.size (.cells #[.map (some w.heap.size), .pointer (some ⟨w.heap.size + 1, 0, none⟩), .int .i64 (-1), .int .i64 0] 46)
  have m1 := MapAt.made w
  have m2 := m1.kept (World.grownBy_alloc (w.alloc (.map #[] 0)) (.cells #[.map (some w.heap.size), .pointer (some ⟨w.heap.size + 1, 0, none⟩), .int .i64 (-1), .int .i64 0] 46) none) (by simp)
  have k2 := Blk.new (w.alloc (.map #[] 0)) 46 #[.map (some w.heap.size), .pointer (some ⟨w.heap.size + 1, 0, none⟩), .int .i64 (-1), .int .i64 0]
  have es : (w.alloc (.map #[] 0)).heap.size = w.heap.size + 1 := by simp
  rw [es] at k2
  refine ⟨⟨fun u hu => ?_, fun u hu => ?_, fun u hu v hv huv => ?_, fun u hu => ⟨by omega, Nat.le_refl _⟩⟩, ⟨by simp, fun u c hu => by simp at hu⟩, by simp, rfl, rfl, fun j _ hj => by omega, fun u hu => .inl rfl, fun u hu => by rw [List.mem_singleton.1 hu]; simp, by simp, b2⟩
  · rw [List.mem_singleton.1 hu]; simpa using k2
  · have e : (fun c : UInt8 => if u ++ [c] ∈ [([] : List UInt8)] then some (w.heap.size + 1) else none) = fun _ => none := by funext c; simp
    rw [e]
    exact m2
  · exact absurd ((List.mem_singleton.1 hu).trans (List.mem_singleton.1 hv).symm) huv
section
variable {w W W2 W3 : World} {R i n : Nat} {fs : List ByteArray} {l : List (List UInt8)} {S M : List UInt8 → Nat} {fd : List UInt8 → Int} {bk : List UInt8 → Value}
theorem Bld.drewN (h : Bld w W R fs i n l S M fd bk) (q : Nat) : Bld w (W.drewN q) R fs i n l S M fd bk :=
  ⟨⟨fun u hu => h.m.blk u hu, fun u hu => (h.m.mp u hu).same rfl, h.m.inj, h.m.low⟩, h.t, h.nd, h.root, h.bk0, h.fin, h.fd_, h.len, h.nb, below_drewN h.b q⟩
theorem Bld.add (h : Bld w W R fs i n l S M fd bk) {u : List UInt8} {c : UInt8} (hu : u ∈ l) (hn : ¬ u ++ [c] ∈ l) (hul : u.length < 10)
    {m s : Nat} (hm : W.heap.size ≤ m) (hs : W.heap.size ≤ s) (hms : m ≠ s) (hW2 : Below W.heap.size W W2) (hmp : MapAt W2 m 0 (fun _ => none)) (hbl : Blk W2 s 46 #[.map (some m), .pointer none, .int .i64 (-1), .int .i64 ((u.length : Int) + 1)])
    (hg : W2.grownBy W3 (some (M u))) (hmu : MapAt W3 (M u) (n + 1) (fun d => if d = c then some s else if u ++ [d] ∈ l then some (S (u ++ [d])) else none)) :
    Bld w W3 R fs i (n + 1) (l ++ [u ++ [c]]) (upd S (u ++ [c]) s) (upd M (u ++ [c]) m) (upd fd (u ++ [c]) (-1)) (upd bk (u ++ [c]) (.pointer none)) := by
  have hne : ∀ v ∈ l, v ≠ u ++ [c] := fun v hv e => hn (e ▸ hv)
  have hnil : ([] : List UInt8) ≠ u ++ [c] := hne _ h.t.nil
  refine ⟨h.m.add h.t hu hn h.b.size hm hs hms hW2 hmp hbl hg hmu, ⟨by simp [h.t.nil], fun v d hv => ?_⟩, ?_, ?_, ?_, fun j hj hi => ?_, fun v hv => ?_, fun v hv => ?_, ?_, ?_⟩
  · rcases List.mem_append.1 hv with hv | hv
    · exact List.mem_append.2 (.inl (h.t.up v d hv))
    · rw [(snoc_inj (List.mem_singleton.1 hv)).1]
      exact List.mem_append.2 (.inl hu)
  · refine List.nodup_append.2 ⟨h.nd, by simp, fun a ha b hb => ?_⟩
    rw [List.mem_singleton.1 hb]
    exact hne a ha
  · rw [upd_ne _ _ hnil]; exact h.root
  · rw [upd_ne _ _ hnil]; exact h.bk0
  · obtain ⟨h1, h2⟩ := h.fin j hj hi
    exact ⟨List.mem_append.2 (.inl h1), by rw [upd_ne _ _ (hne _ h1)]; exact h2⟩
  · rcases List.mem_append.1 hv with hv | hv
    · rw [upd_ne _ _ (hne v hv)]; exact h.fd_ v hv
    · rw [List.mem_singleton.1 hv, upd_self]; exact .inl rfl
  · rcases List.mem_append.1 hv with hv | hv
    · exact h.len v hv
    · rw [List.mem_singleton.1 hv, List.length_append]; simp; omega
  · rw [List.length_append]; have := h.nb; simp; omega
  · refine (h.b.trans (hW2.mono h.b.size)).grown hg (Nat.le_trans h.b.size hW2.size) fun q hq => ?_
    rw [← Option.some.inj hq]
    exact (h.m.low u hu).2
theorem Bld.find (h : Bld w W R fs i n l S M fd bk) (hi : i < fs.length) (hu : fs[i].data.toList ∈ l) (hd : ∀ j (hj : j < fs.length), j < i → fs[j].data.toList ≠ fs[i].data.toList) :
    Bld w (W.setCell ⟨S fs[i].data.toList, 2, none⟩ (.int .i64 (i : Int))) R fs (i + 1) n l S M (fun v => if v = fs[i].data.toList then (i : Int) else fd v) bk := by
  refine ⟨h.m.setFind hu _, h.t, h.nd, h.root, h.bk0, fun j hj hji => ?_, fun v hv => ?_, h.len, h.nb, h.b.setCell (p := ⟨S fs[i].data.toList, 2, none⟩) (h.m.low _ hu).1 _⟩
  · rcases Nat.lt_or_ge j i with h1 | h1
    · obtain ⟨h2, h3⟩ := h.fin j hj h1
      exact ⟨h2, by rw [if_neg (hd j hj h1)]; exact h3⟩
    · obtain rfl : j = i := by omega
      exact ⟨hu, if_pos rfl⟩
  · by_cases e : v = fs[i].data.toList
    · subst e
      simp only [if_pos]
      exact .inr ⟨i, hi, by omega, rfl, rfl⟩
    · simp only [if_neg e]
      rcases h.fd_ v hv with h1 | ⟨j, h1, h2, h3, h4⟩
      · exact .inl h1
      · exact .inr ⟨j, h1, by omega, h3, h4⟩
end
end Go.Proofs.Ytacjckocjngfoaa
