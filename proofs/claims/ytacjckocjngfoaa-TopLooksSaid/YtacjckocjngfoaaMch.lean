/-
  The machine of many finds in memory: states, their maps, and what goes back.
-/
import Derived.Test.YtacjckocjngfoaaAho
import Derived.Test.YtacjckocjngfoaaWrdG
import Derived.Maps.RangeWalk
import Derived.Maps.OwnSet
namespace Go.Proofs.Ytacjckocjngfoaa
open Go.RowKit Go.WideMaps Go.Maps Go.ChangeShapes Go.ChangeMaps
open Go.WideElems (Fit rg rd_val)
set_option linter.unusedVariables false
set_option linter.unusedSimpArgs false

def pS (s : Nat) : Value := .pointer (some ⟨s, 0, none⟩)
def pO : Option Nat → Value
  | none => .pointer none
  | some s => pS s
def HV : Value → Option (DataW Value × List MemPlace) := fun v => some (.held v, [])
theorem byte_law : Keyed Try.prog 5 := int_keyed Try.underlying5
theorem zeroSt (w : World) : (zeroValue 41).run Try.prog w = .ok (.pointer none) w := by kernel_rfl
theorem byte_wf (c : UInt8) : (Lit.int .u8 (c.toNat : Int)).wf = true := by
  have := c.toNat_lt
  exact WalkArith.wf_u8 (by omega)
theorem byte_key (c : UInt8) : keyOf Try.prog 5 (.int .u8 (c.toNat : Int)) = some (.int .u8 (c.toNat : Int)) := keyOf_int_mk Try.underlying5 (byte_wf c)
/-- Block m is a map of bytes to states: of at most n entries. -/
def MapAt (W : World) (m n : Nat) (g : UInt8 → Option Nat) : Prop :=
  ∃ D : DataW Value, W.ownsMap Try.prog 5 HV m n D ∧ ∀ c : UInt8, D.atKey (.int .u8 (c.toNat : Int)) (.held (.pointer none)) = .held (pO (g c)) ∧ has D (.int .u8 (c.toNat : Int)) = (g c).isSome
section
variable {W W' : World} {m n : Nat} {g : UInt8 → Option Nat}
theorem MapAt.lt (h : MapAt W m n g) : m < W.heap.size := by obtain ⟨D, h, _⟩ := h; exact h.lt
theorem MapAt.kept {row : Option Nat} (h : MapAt W m n g) (hg : W.grownBy W' row) (hne : some m ≠ row) : MapAt W' m n g := by
  obtain ⟨D, h, h2⟩ := h; exact ⟨D, h.kept hg hne, h2⟩
theorem MapAt.same (h : MapAt W m n g) (e : W'.heap[m]? = W.heap[m]?) : MapAt W' m n g := by
  obtain ⟨D, ⟨es, clock, h1, h2⟩, h3⟩ := h; exact ⟨D, ⟨es, clock, e.trans h1, h2⟩, h3⟩
theorem MapAt.mono (h : MapAt W m n g) {n' : Nat} (hn : n ≤ n') : MapAt W m n' g := by
  obtain ⟨D, h, h2⟩ := h; exact ⟨D, h.mono hn, h2⟩
theorem MapAt.made (w : World) : MapAt (w.alloc (.map #[] 0)) w.heap.size 0 (fun _ => none) :=
  ⟨_, World.ownsMap_made w _ _ _, fun c => ⟨rfl, rfl⟩⟩
set_option maxRecDepth 100000 in
theorem MapAt.look (h : MapAt W m n g) (c : UInt8) : (Instr.lookup 44 (.map (some m)) (.int .u8 (c.toNat : Int)) true).run Try.prog W = .ok (.tuple #[pO (g c), .bool (g c).isSome]) W := by
  obtain ⟨D, h, h2⟩ := h
  obtain ⟨v, ps, hrun, hv⟩ := h.look_ok byte_law Try.underlying44 (zeroSt W) (zd := .held (.pointer none)) (zp := []) rfl (byte_key c)
  rw [(h2 c).1] at hv
  rw [(h2 c).2] at hrun
  have e : v = pO (g c) := by
    have h9 := Option.some.inj (show some (DataW.held v, ([] : List MemPlace)) = some (.held (pO (g c)), ps) from hv)
    injection h9 with h9 _
    injection h9
  rw [e] at hrun
  exact hrun
theorem sign_ne {c d : UInt8} (h : d ≠ c) : (Lit.int .u8 (d.toNat : Int)) ≠ .int .u8 (c.toNat : Int) := fun e => h (by
  injection e with _ e
  exact UInt8.toNat_inj.1 (by omega))
theorem MapAt.put_ {D : DataW Value} {c : UInt8} {s : Nat} (hD : ∀ c : UInt8, D.atKey (.int .u8 (c.toNat : Int)) (.held (.pointer none)) = .held (pO (g c)) ∧ has D (.int .u8 (c.toNat : Int)) = (g c).isSome) (hm : IsMap D)
    (h : W'.ownsMap Try.prog 5 HV m (n + 1) (D.put (.int .u8 (c.toNat : Int)) (.held (pS s)))) : MapAt W' m (n + 1) (fun d => if d = c then some s else g d) := by
  refine ⟨_, h, fun d => ?_⟩
  by_cases e : d = c
  · subst e
    have hk : WideAt.IsKeyLit (Lit.int .u8 (d.toNat : Int)) := trivial
    rw [atKey_put_same hm hk, has_put_same hm hk]
    simp [pO]
  · rw [atKey_put_other (sign_ne e), has_put_other (sign_ne e)]
    simp only [if_neg e]
    exact hD d
end
/-- The machine: words, the blocks of their states and maps, which find each is, and what goes back from it. -/
structure Mch (W : World) (B n : Nat) (l : List (List UInt8)) (S M : List UInt8 → Nat) (fd : List UInt8 → Int) (bk : List UInt8 → Value) : Prop where
  blk : ∀ u ∈ l, Blk W (S u) 46 #[.map (some (M u)), bk u, .int .i64 (fd u), .int .i64 (u.length : Int)]
  mp : ∀ u ∈ l, MapAt W (M u) n (fun c => if u ++ [c] ∈ l then some (S (u ++ [c])) else none)
  inj : ∀ u ∈ l, ∀ v ∈ l, u ≠ v → S u ≠ S v ∧ M u ≠ M v
  low : ∀ u ∈ l, B ≤ S u ∧ B ≤ M u
section
variable {W W' : World} {B n : Nat} {l : List (List UInt8)} {S M : List UInt8 → Nat} {fd : List UInt8 → Int} {bk : List UInt8 → Value}
theorem Mch.lt (h : Mch W B n l S M fd bk) {u : List UInt8} (hu : u ∈ l) : S u < W.heap.size ∧ M u < W.heap.size := ⟨(h.blk u hu).lt, (h.mp u hu).lt⟩
theorem Mch.sm (h : Mch W B n l S M fd bk) {u v : List UInt8} (hu : u ∈ l) (hv : v ∈ l) : S u ≠ M v := fun e => by
  have h1 := h.blk u hu
  obtain ⟨D, ⟨es, clock, h2, _⟩, _⟩ := h.mp v hv
  unfold Blk at h1
  rw [e, h2] at h1
  cases h1
theorem Mch.kept {row : Option Nat} (h : Mch W B n l S M fd bk) (hg : W.grownBy W' row) (hr : ∀ u ∈ l, some (S u) ≠ row ∧ some (M u) ≠ row) : Mch W' B n l S M fd bk :=
  ⟨fun u hu => (h.blk u hu).grown hg (hr u hu).1, fun u hu => (h.mp u hu).kept hg (hr u hu).2, h.inj, h.low⟩
theorem Mch.below {B' : Nat} (h : Mch W B n l S M fd bk) (hb : Below B' W W') (hr : ∀ u ∈ l, S u < B' ∧ M u < B') : Mch W' B n l S M fd bk :=
  ⟨fun u hu => (h.blk u hu).below hb (hr u hu).1, fun u hu => (h.mp u hu).same (hb.block _ (hr u hu).2), h.inj, h.low⟩
theorem Mch.later (h : Mch W B n l S M fd bk) (hb : Below W.heap.size W W') : Mch W' B n l S M fd bk := h.below hb fun u hu => h.lt hu
/-- What goes back from a word is laid. -/
theorem Mch.setBack (h : Mch W B n l S M fd bk) {u : List UInt8} (hu : u ∈ l) (x : Value) : Mch (W.setCell ⟨S u, 1, none⟩ x) B n l S M fd (fun v => if v = u then x else bk v) := by
  refine ⟨fun v hv => ?_, fun v hv => (h.mp v hv).same (Below.heap_setCell W ⟨S u, 1, none⟩ x _ fun e => h.sm hu hv e.symm), h.inj, h.low⟩
  by_cases e : v = u
  · subst e
    have := (h.blk v hv).set_ 1 x
    simpa using this
  · have := (h.blk v hv).far (p := ⟨S u, 1, none⟩) ((h.inj v hv u hu e).1) x
    simpa [e] using this
/-- Which find a word is. -/
theorem Mch.setFind (h : Mch W B n l S M fd bk) {u : List UInt8} (hu : u ∈ l) (x : Int) : Mch (W.setCell ⟨S u, 2, none⟩ (.int .i64 x)) B n l S M (fun v => if v = u then x else fd v) bk := by
  refine ⟨fun v hv => ?_, fun v hv => (h.mp v hv).same (Below.heap_setCell W ⟨S u, 2, none⟩ _ _ fun e => h.sm hu hv e.symm), h.inj, h.low⟩
  by_cases e : v = u
  · subst e
    have := (h.blk v hv).set_ 2 (.int .i64 x)
    simpa using this
  · have := (h.blk v hv).far (p := ⟨S u, 2, none⟩) ((h.inj v hv u hu e).1) (.int .i64 x)
    simpa [e] using this
end
end Go.Proofs.Ytacjckocjngfoaa
