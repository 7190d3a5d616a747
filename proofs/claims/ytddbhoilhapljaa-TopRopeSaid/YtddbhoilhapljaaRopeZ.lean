/-
  The walk of the rope's String: a range over the leaves, which a recursive iterator hands out.
-/
import Derived.RangeFuncBox
import Derived.RangeFuncLeaves
import Derived.RangeFuncBound
import Derived.RangeFuncKeeps
import Derived.Shelf.Abstract
import Derived.WalkKit
import Derived.OwnWalkIn
import Derived.TacticsInMore
import Derived.LoopNIn
import Derived.LoopIn
import Derived.Maps.AppendAt
import Derived.Lib.AppendStr
import Derived.Laws.IdiomStrings
import Derived.Test.YtddbhoilhapljaaRopeP
namespace Go.Proofs.Ytddbhoilhapljaa
open Go.RowKit Go.Shelf
set_option linter.unusedVariables false
attribute [local go_sem] Oper.semAt_some

theorem roundAny {F : Fence} (hd : F.depth = none) {m m' : Nat} {P : Program} {l : Nat} {f : FuncId} {tmps : Array Value} {assign body : Code} {w : World} {R : Ending → World → Prop}
    (h : RoundIn F m P l f tmps assign body w R) : RoundIn F m' P l f tmps assign body w R := ⟨h.1, fun c cs _ => h.2 c cs (fun d h => by rw [hd] at h; cases h)⟩
theorem yieldAny {F : Fence} (hd : F.depth = none) {m : Nat} (m' : Nat) {P : Program} {l : Nat} {args : Array Value} {W : World} {R : Ending → World → Prop} (h : YieldAt F m P l args W R) : YieldAt F m' P l args W R := by
  obtain ⟨fn, tmps, assign, body, hy, hR⟩ := h
  exact ⟨fn, tmps, assign, body, hy, roundAny hd hR⟩
def T.lv : T → List ByteArray
  | .leaf s => [s]
  | .node a b => a.lv ++ b.lv
def cat (l : List ByteArray) : List UInt8 := l.flatMap fun s => s.data.toList
theorem cat_append (a b : List ByteArray) : cat (a ++ b) = cat a ++ cat b := by simp [cat]
theorem T.lv_tx (t : T) : cat t.lv = t.tx := by
  induction t with
  | leaf s => simp [T.lv, cat, T.tx]
  | node a b iha ihb => rw [T.lv, cat_append, iha, ihb]; rfl
def olv : Option T → List ByteArray
  | none => []
  | some t => t.lv
theorem olv_tx (o : Option T) : cat (olv o) = otx o := by
  cases o with
  | none => rfl
  | some t => exact t.lv_tx
set_option maxRecDepth 100000 in
set_option maxHeartbeats 4000000 in
theorem each_in (F : Fence) (hd : F.depth = none) (h6 : F.fn 102) (hro : F.round = none) (l : Nat) (w0 : World) (N : Nat) (G : ByteArray → Prop) (J Jx : List ByteArray → World → Prop)
    (hY : ∀ m pre x W, G x → J pre W → pre.length < N → YieldAt F m Try.prog l #[.string x] W fun e W' =>
      (e = .returned (.bool true) ∧ J (pre ++ [x]) W' ∧ Below w0.heap.size W W') ∨ (e = .returned (.bool false) ∧ Jx (pre ++ [x]) W')) (t : T) :
    ∀ (n g : Nat) (pre : List ByteArray) (W : World), (∀ s ∈ t.lv, G s) → RT w0 g t → Below w0.heap.size w0 W → J pre W → pre.length + t.lv.length ≤ N →
      CallsIn F n Try.prog 102 #[.pointer (some ⟨g, 0, none⟩), .func (.yield l) #[] #[]] W fun e W' =>
        (e = .returned (.bool true) ∧ J (pre ++ t.lv) W' ∧ Below w0.heap.size W W') ∨ (e = .returned (.bool false) ∧ ∃ q, q <+: t.lv ∧ Jx (pre ++ q) W') := by
  have hdd : ∀ k : Nat, (F.depth.isSome = true → 1 ≤ k) := fun k h => by rw [hd] at h; cases h
  induction t with
  | leaf s =>
    intro n g pre W hG ht hbW hJ hN
    obtain ⟨c0, c1, _⟩ := (ht.below hbW).lf
    have hYs := hY (n - 1) pre s W (hG s (by simp [T.lv])) hJ (by simp [T.lv] at hN; omega)
    obtain ⟨fn, tmps, assign, body, hy, hR⟩ := hYs
    clear ht hY
    refine callsIn_of_wp Try.func102 rfl h6 ?_ hro
    simp only [Try.ntmps102, List.size_toArray, List.length_cons, List.length_nil, Nat.reduceAdd, Nat.reduceSub, Array.replicate_succ, Array.replicate_zero, List.push_toArray, List.append_toArray, List.nil_append, List.cons_append]
    gi_wp2_with ((try refine ⟨hdd _, ?_⟩); refine hR.mono ?_; clear hR; rintro e W2 (⟨rfl, hJ2, hb2⟩ | ⟨rfl, hx2⟩))
    · go_ret
      exact .inl ⟨rfl, hJ2, hb2⟩
    · go_ret
      exact .inr ⟨rfl, [s], ⟨[], by simp [T.lv]⟩, hx2⟩
  | node a b iha ihb =>
    intro n g pre W hG ht hbW hJ hN
    obtain ⟨q, ga, gb, p1, p2, p3, hg, hq, hxa, hxb⟩ := ht.nd
    have k1 : W.cell? ⟨g, 1, none⟩ = some (.pointer (some ⟨q, 0, none⟩)) := (hbW.cell (p := ⟨g, 1, none⟩) hg).trans p1
    have k2 : W.cell? ⟨q, 0, none⟩ = some (.pointer (some ⟨ga, 0, none⟩)) := (hbW.cell (p := ⟨q, 0, none⟩) hq).trans p2
    simp only [T.lv, List.length_append] at hN
    have ih1 := (iha (n - 1) ga pre W (fun s hs => hG s (by simp [T.lv, hs])) hxa hbW hJ (by omega)).mono (R' := fun e W1 =>
        (e = .returned (.bool true) ∧ W1.cell? ⟨g, 1, none⟩ = some (.pointer (some ⟨q, 0, none⟩)) ∧ W1.cell? ⟨q, 1, none⟩ = some (.pointer (some ⟨gb, 0, none⟩)) ∧ CallsIn F (n - 1) Try.prog 102 #[.pointer (some ⟨gb, 0, none⟩), .func (.yield l) #[] #[]] W1 fun e W' =>
          (e = .returned (.bool true) ∧ J (pre ++ a.lv ++ b.lv) W' ∧ Below w0.heap.size W W') ∨ (e = .returned (.bool false) ∧ ∃ q, q <+: b.lv ∧ Jx (pre ++ a.lv ++ q) W')) ∨
        (e = .returned (.bool false) ∧ ∃ q, q <+: a.lv ∧ Jx (pre ++ q) W1))
      (fun e W1 h => h.elim (fun ⟨he, hj, hb1⟩ => .inl ⟨he, (hb1.cell (p := ⟨g, 1, none⟩) hg).trans k1, ((hbW.trans hb1).cell (p := ⟨q, 1, none⟩) hq).trans p3,
        (ihb (n - 1) gb (pre ++ a.lv) W1 (fun s hs => hG s (by simp [T.lv, hs])) hxb (hbW.trans hb1) hj (by simp; omega)).mono fun e W2 h2 => h2.elim (fun ⟨x1, x2, x3⟩ => .inl ⟨x1, x2, hb1.trans x3⟩) .inr⟩) .inr)
    clear iha ihb hY p1 p2 p3 ht hxa hxb
    refine callsIn_of_wp Try.func102 rfl h6 ?_ hro
    simp only [Try.ntmps102, List.size_toArray, List.length_cons, List.length_nil, Nat.reduceAdd, Nat.reduceSub, Array.replicate_succ, Array.replicate_zero, List.push_toArray, List.append_toArray, List.nil_append, List.cons_append]
    gi_wp2_with (first
      | ((try refine ⟨hdd _, ?_⟩); gi_at_call 102; refine ih1.mono ?_; clear ih1; rintro e W1 (⟨rfl, k1', k3', ih2⟩ | ⟨rfl, q', hq', hx1⟩))
      | ((try refine ⟨hdd _, ?_⟩); gi_at_call 102; refine ih2.mono ?_; clear ih2; rintro e W3 (⟨rfl, hJ3, hb3⟩ | ⟨rfl, q', hq', hx3⟩)))
    · go_ret
      exact .inl ⟨rfl, by simpa [T.lv, List.append_assoc] using hJ3, hb3⟩
    · go_ret
      obtain ⟨r, hr'⟩ := hq'
      exact .inr ⟨rfl, a.lv ++ q', ⟨r, by simp [T.lv, ← hr']⟩, by simpa [List.append_assoc] using hx3⟩
    · go_ret
      exact .inr ⟨rfl, q', hq'.trans (by simp [T.lv]), hx1⟩
set_option maxRecDepth 100000 in
theorem eachNil_in (F : Fence) (n : Nat) (h6 : F.fn 102) (hro : F.round = none) (l : Nat) (W : World) :
    CallsIn F n Try.prog 102 #[.pointer none, .func (.yield l) #[] #[]] W fun e W' => e = .returned (.bool true) ∧ W = W' := by
  refine callsIn_of_wp Try.func102 rfl h6 ?_ hro
  simp only [Try.ntmps102, List.size_toArray, List.length_cons, List.length_nil, Nat.reduceAdd, Nat.reduceSub, Array.replicate_succ, Array.replicate_zero, List.push_toArray, List.append_toArray, List.nil_append, List.cons_append]
  gi_wp2
  go_ret
  exact ⟨rfl, rfl⟩
/-- each, at a rope that may be nil. -/
theorem eachO_in (F : Fence) (hd : F.depth = none) (h6 : F.fn 102) (hro : F.round = none) (l : Nat) (w0 : World) (N : Nat) (G : ByteArray → Prop) (J Jx : List ByteArray → World → Prop)
    (hY : ∀ m pre x W, G x → J pre W → pre.length < N → YieldAt F m Try.prog l #[.string x] W fun e W' =>
      (e = .returned (.bool true) ∧ J (pre ++ [x]) W' ∧ Below w0.heap.size W W') ∨ (e = .returned (.bool false) ∧ Jx (pre ++ [x]) W')) (o : Option T) (hG : ∀ s ∈ olv o, G s) (n : Nat) (v : Value) (W : World) (h : RO w0 v o) (hb : Below w0.heap.size w0 W) (hJ : J [] W) (hN : (olv o).length ≤ N) :
    CallsIn F n Try.prog 102 #[v, .func (.yield l) #[] #[]] W fun e W' =>
      (e = .returned (.bool true) ∧ J (olv o) W' ∧ Below w0.heap.size W W') ∨ (e = .returned (.bool false) ∧ ∃ q, q <+: olv o ∧ Jx q W') := by
  cases o with
  | none =>
    have h' : v = .pointer none := h
    subst h'
    refine (eachNil_in F n h6 hro l W).mono ?_
    rintro e W' ⟨rfl, rfl⟩
    exact .inl ⟨rfl, hJ, Below.refl _ _⟩
  | some t =>
    obtain ⟨g, rfl, hr⟩ := h
    have := each_in F hd h6 hro l w0 N G J Jx hY t n g [] W hG hr hb hJ (by have e : (olv (some t)).length = t.lv.length := rfl; simp only [List.length_nil]; omega)
    simpa [olv] using this
set_option maxHeartbeats 1000000 in
theorem leaves1_in (F : Fence) (hd : F.depth = none) (n : Nat) (h5 : F.fn 101) (h6 : F.fn 102) (hro : F.round = none) (l Bt : Nat) (w0 : World) (v : Value) (o : Option T) (G : ByteArray → Prop) (hG : ∀ s ∈ olv o, G s) (J Jx : List ByteArray → World → Prop)
    (hY : ∀ pre x W, G x → J pre W → pre.length < (olv o).length → YieldAt F (n - 1) Try.prog l #[.string x] W fun e W' =>
      (e = .returned (.bool true) ∧ J (pre ++ [x]) W' ∧ Below w0.heap.size W W') ∨ (e = .returned (.bool false) ∧ Jx (pre ++ [x]) W'))
    (W : World) (hBt : W.cell? ⟨Bt, 0, none⟩ = some v) (hT : RO w0 v o) (hb : Below w0.heap.size w0 W) (h0 : J [] W) :
    CallsIn F n Try.prog 101 #[.func (.yield l) #[] #[], .pointer (some ⟨Bt, 0, none⟩)] W fun e W' => (∃ v, e = .returned v) ∧
      ((∃ ys, ys = olv o ∧ J ys W') ∨ (∃ pre, pre <+: olv o ∧ Jx pre W')) := by
  have hdd : ∀ k : Nat, (F.depth.isSome = true → 1 ≤ k) := fun k h => by rw [hd] at h; cases h
  have hp := eachO_in F hd h6 hro l w0 (olv o).length G J Jx (fun m pre x W hg hj hl => yieldAny hd m (hY pre x W hg hj hl)) o hG (n - 1) v W hT hb h0 (Nat.le_refl _)
  obtain ⟨p, rfl⟩ := hT.shape
  refine callsIn_of_wp Try.func101 rfl h5 ?_ hro
  simp only [Try.ntmps101, List.size_toArray, List.length_cons, List.length_nil, Nat.reduceAdd, Nat.reduceSub, Array.replicate_succ, Array.replicate_zero, List.push_toArray, List.append_toArray, List.nil_append, List.cons_append]
  gi_wp2_with ((try refine ⟨hdd _, ?_⟩); gi_at_call 102; refine hp.mono ?_; clear hp; rintro e W1 (⟨rfl, hJ1, _⟩ | ⟨rfl, q, hq, hx⟩))
  · go_end0
    exact ⟨⟨_, rfl⟩, .inl ⟨_, rfl, hJ1⟩⟩
  · go_end0
    exact ⟨⟨_, rfl⟩, .inr ⟨q, hq, hx⟩⟩
set_option maxHeartbeats 1000000 in
theorem leaves_in (F : Fence) (n : Nat) (h4 : F.fn 87) (hro : F.round = none) (p0 : Option Addr) (w : World) :
    CallsIn F n Try.prog 87 #[.pointer p0] w fun e w' => e = .returned (.func (.func 101) #[] #[.pointer (some ⟨w.heap.size, 0, none⟩)]) ∧ w' = w.alloc (.cells #[.pointer p0] 110) := by
  refine callsIn_of_wp Try.func87 rfl h4 ?_ hro
  simp only [Try.ntmps87, List.size_toArray, List.length_cons, List.length_nil, Nat.reduceAdd, Nat.reduceSub, Array.replicate_succ, Array.replicate_zero, List.push_toArray, List.append_toArray, List.nil_append, List.cons_append]
  gi_wp2
  go_ret
  exact ⟨rfl, rfl⟩
theorem leaves_stops (F : Fence) (hd : F.depth = none) (n : Nat) (h5 : F.fn 101) (h6 : F.fn 102) (hro : F.round = none) (Bt : Nat) (w0 : World) (v : Value) (o : Option T) (G : ByteArray → Prop) (hG : ∀ s ∈ olv o, G s) (w : World) (hBt : Bt < w.heap.size) (hbw : Below w0.heap.size w0 w)
    (hc : w.cell? ⟨Bt, 0, none⟩ = some v) (hT : RO w0 v o) :
    SeqStopsK F n Try.prog 101 #[.pointer (some ⟨Bt, 0, none⟩)] (fun x : {s : ByteArray // G s} => #[Value.string x.1]) (Below w0.heap.size) (fun ys => ys.map (·.1) = olv o) (fun pre => pre.map (·.1) <+: olv o) (olv o).length w := fun l J Jx W hW _ _ hY h0 => by
  have hm : ∀ (zs : List {s : ByteArray // G s}) (pre : List ByteArray), zs.map (·.1) = pre → zs.length = pre.length := fun zs pre h => by rw [← h, List.length_map]
  refine (leaves1_in F hd n h5 h6 hro l Bt w0 v o G hG (fun pre W => ∃ zs : List {s : ByteArray // G s}, zs.map (·.1) = pre ∧ J zs W) (fun pre W => ∃ zs : List {s : ByteArray // G s}, zs.map (·.1) = pre ∧ Jx zs W) ?_ W ((hW.cell (p := ⟨Bt, 0, none⟩) hBt).trans hc) hT (hbw.trans (hW.mono hbw.size)) ⟨[], rfl, h0⟩).mono ?_
  · rintro pre x W hg ⟨zs, hz, hj⟩ hl
    refine (hY zs ⟨x, hg⟩ W hj (by rw [hm zs pre hz]; exact hl)).mono ?_
    rintro e W' (⟨a, b, c⟩ | ⟨a, b⟩)
    · exact .inl ⟨a, ⟨_, by simp [hz], b⟩, c⟩
    · exact .inr ⟨a, ⟨_, by simp [hz], b⟩⟩
  · rintro e W' ⟨he, ⟨ys, hys, zs, hz, hj⟩ | ⟨pre, hpre, zs, hz, hj⟩⟩
    · exact ⟨he, .inl ⟨zs, hz.trans hys, hj⟩⟩
    · exact ⟨he, .inr ⟨zs, by show zs.map (·.1) <+: olv o; rw [hz]; exact hpre, hj⟩⟩
end Go.Proofs.Ytddbhoilhapljaa
