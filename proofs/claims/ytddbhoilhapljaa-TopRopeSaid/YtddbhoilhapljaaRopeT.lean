/-
  Ropes as trees: plain laws of their texts and depths, and how a rope lies in memory.
-/
import Derived.Test.YtddbhoilhapljaaPos
import Derived.Test.YtddbhoilhapljaaPolyJoin
import Derived.Test.YtddbhoilhapljaaOrd
import Derived.Test.YtddbhoilhapljaaOrdC
namespace Go.Proofs.Ytddbhoilhapljaa
open Go.RowKit
set_option linter.unusedVariables false

inductive T where
  | leaf (s : ByteArray)
  | node (a b : T)
def T.tx : T → List UInt8
  | .leaf s => s.data.toList
  | .node a b => a.tx ++ b.tx
def T.dp : T → Nat
  | .leaf _ => 1
  | .node a b => max a.dp b.dp + 1
def T.ok : T → Prop
  | .leaf s => 0 < s.size
  | .node a b => a.ok ∧ b.ok ∧ a.dp ≤ b.dp + 1 ∧ b.dp ≤ a.dp + 1
theorem T.dp_pos (t : T) : 1 ≤ t.dp := by cases t <;> simp [T.dp]
theorem T.dp_le (t : T) (h : t.ok) : t.dp ≤ t.tx.length := by
  induction t with
  | leaf s => have h' : 0 < s.size := h; simp [T.dp, T.tx]; omega
  | node a b iha ihb =>
    obtain ⟨h1, h2, h3, h4⟩ := h
    have := iha h1
    have := ihb h2
    have := a.dp_pos
    have := b.dp_pos
    simp only [T.dp, T.tx, List.length_append]; omega
theorem T.tx_pos (t : T) (h : t.ok) : 0 < t.tx.length := by have := t.dp_le h; have := t.dp_pos; omega
/-- A tree that is deep has many bytes. -/
theorem T.dp_log (n : Nat) : ∀ (t : T), t.ok → 2 * n + 1 ≤ t.dp → 2 ^ n ≤ t.tx.length := by
  induction n with
  | zero => intro t h _; have := t.tx_pos h; simp only [Nat.pow_zero]; omega
  | succ n ih =>
    intro t h hd
    cases t with
    | leaf s => simp [T.dp] at hd
    | node a b =>
      obtain ⟨h1, h2, h3, h4⟩ := h
      simp only [T.dp] at hd
      have e1 := ih a h1 (by omega)
      have e2 := ih b h2 (by omega)
      simp only [T.tx, List.length_append, Nat.pow_succ]; omega
/-- What balanced makes is told by its text and its depth. -/
def Bal (a b t : T) : Prop := t.ok ∧ t.tx = a.tx ++ b.tx ∧ max a.dp b.dp ≤ t.dp ∧ t.dp ≤ max a.dp b.dp + 1 ∧ (a.dp ≤ b.dp + 1 → b.dp ≤ a.dp + 1 → t.dp = max a.dp b.dp + 1)
theorem bal_flat (a b : T) (ha : a.ok) (hb : b.ok) (h1 : a.dp ≤ b.dp + 1) (h2 : b.dp ≤ a.dp + 1) : Bal a b (.node a b) :=
  ⟨⟨ha, hb, h1, h2⟩, rfl, by simp only [T.dp]; omega, by simp only [T.dp]; omega, fun _ _ => rfl⟩
theorem bal_left1 (x y b : T) (ha : (T.node x y).ok) (hb : b.ok) (h1 : (T.node x y).dp = b.dp + 2) (h : y.dp ≤ x.dp) : Bal (.node x y) b (.node x (.node y b)) := by
  obtain ⟨q1, q2, q3, q4⟩ := ha
  simp only [T.dp] at h1
  refine ⟨⟨q1, ⟨q2, hb, by omega, by omega⟩, ?_, ?_⟩, by simp [T.tx], ?_, ?_, ?_⟩
  all_goals (try simp only [T.dp])
  all_goals first | omega | (intro _ _; omega)
theorem bal_left2 (x y0 y1 b : T) (ha : (T.node x (.node y0 y1)).ok) (hb : b.ok) (h1 : (T.node x (.node y0 y1)).dp = b.dp + 2) (h : ¬ (T.node y0 y1).dp ≤ x.dp) : Bal (.node x (.node y0 y1)) b (.node (.node x y0) (.node y1 b)) := by
  obtain ⟨q1, ⟨r1, r2, r3, r4⟩, q3, q4⟩ := ha
  simp only [T.dp] at h1 h q3 q4
  refine ⟨⟨⟨q1, r1, ?_, ?_⟩, ⟨r2, hb, ?_, ?_⟩, ?_, ?_⟩, by simp [T.tx], ?_, ?_, ?_⟩
  all_goals (try simp only [T.dp])
  all_goals first | omega | (intro _ _; omega)
theorem bal_right1 (a x y : T) (ha : a.ok) (hb : (T.node x y).ok) (h1 : (T.node x y).dp = a.dp + 2) (h : x.dp ≤ y.dp) : Bal a (.node x y) (.node (.node a x) y) := by
  obtain ⟨q1, q2, q3, q4⟩ := hb
  simp only [T.dp] at h1
  refine ⟨⟨⟨ha, q1, by omega, by omega⟩, q2, ?_, ?_⟩, by simp [T.tx], ?_, ?_, ?_⟩
  all_goals (try simp only [T.dp])
  all_goals first | omega | (intro _ _; omega)
theorem bal_right2 (a x0 x1 y : T) (ha : a.ok) (hb : (T.node (.node x0 x1) y).ok) (h1 : (T.node (.node x0 x1) y).dp = a.dp + 2) (h : ¬ (T.node x0 x1).dp ≤ y.dp) : Bal a (.node (.node x0 x1) y) (.node (.node a x0) (.node x1 y)) := by
  obtain ⟨⟨r1, r2, r3, r4⟩, q2, q3, q4⟩ := hb
  simp only [T.dp] at h1 h q3 q4
  refine ⟨⟨⟨ha, r1, ?_, ?_⟩, ⟨r2, q2, ?_, ?_⟩, ?_, ?_⟩, by simp [T.tx], ?_, ?_, ?_⟩
  all_goals (try simp only [T.dp])
  all_goals first | omega | (intro _ _; omega)
/-- What Join makes is told by its text and its depth. -/
def Jn (a b t : T) : Prop := t.ok ∧ t.tx = a.tx ++ b.tx ∧ max a.dp b.dp ≤ t.dp ∧ t.dp ≤ max a.dp b.dp + 1
theorem jn_flat (a b : T) (ha : a.ok) (hb : b.ok) (h1 : a.dp ≤ b.dp + 1) (h2 : b.dp ≤ a.dp + 1) : Jn a b (.node a b) := by
  obtain ⟨q1, q2, q3, q4, _⟩ := bal_flat a b ha hb h1 h2
  exact ⟨q1, q2, q3, q4⟩
theorem jn_left (a0 a1 b t u : T) (ha : (T.node a0 a1).ok) (h : b.dp + 1 < (T.node a0 a1).dp) (ht : Jn a1 b t) (hu : Bal a0 t u) : Jn (.node a0 a1) b u := by
  obtain ⟨p1, p2, p3, p4⟩ := ht
  obtain ⟨r1, r2, r3, r4, r5⟩ := hu
  obtain ⟨q1, q2, q3, q4⟩ := ha
  simp only [T.dp] at h
  refine ⟨r1, by rw [r2, p2]; simp [T.tx], ?_, ?_⟩
  all_goals (try simp only [T.dp])
  all_goals first | omega | (intro _ _; omega)
theorem jn_right (a b0 b1 t u : T) (hb : (T.node b0 b1).ok) (h : a.dp + 1 < (T.node b0 b1).dp) (ht : Jn a b0 t) (hu : Bal t b1 u) : Jn a (.node b0 b1) u := by
  obtain ⟨p1, p2, p3, p4⟩ := ht
  obtain ⟨r1, r2, r3, r4, r5⟩ := hu
  obtain ⟨q1, q2, q3, q4⟩ := hb
  simp only [T.dp] at h
  refine ⟨r1, by rw [r2, p2]; simp [T.tx], ?_, ?_⟩
  all_goals (try simp only [T.dp])
  all_goals first | omega | (intro _ _; omega)
theorem jn_left_two (a0 a1 b t : T) (ha : (T.node a0 a1).ok) (h : b.dp + 1 < (T.node a0 a1).dp) (ht : Jn a1 b t) : a0.dp ≤ t.dp + 2 ∧ t.dp ≤ a0.dp + 2 := by
  obtain ⟨p1, p2, p3, p4⟩ := ht
  obtain ⟨q1, q2, q3, q4⟩ := ha
  simp only [T.dp] at h
  omega
theorem jn_right_two (a b0 b1 t : T) (hb : (T.node b0 b1).ok) (h : a.dp + 1 < (T.node b0 b1).dp) (ht : Jn a b0 t) : t.dp ≤ b1.dp + 2 ∧ b1.dp ≤ t.dp + 2 := by
  obtain ⟨p1, p2, p3, p4⟩ := ht
  obtain ⟨q1, q2, q3, q4⟩ := hb
  simp only [T.dp] at h
  omega

/-- The cells of a rope's block. -/
def rcells (s : ByteArray) (p : Option Addr) (d : Nat) (l : List UInt8) : Array Value :=
  #[.string s, .pointer p, .int .i64 (d : Int), .int .i64 (l.length : Int), .int .i64 (lnsL l : Int), .int .i64 (colL l : Int), .int .i64 (hv l), .int .i64 (hs l)]
def RT (w : World) : Nat → T → Prop
  | g, .leaf s => Blk w g 142 (rcells s none 1 s.data.toList)
  | g, .node a b => ∃ q ga gb, Blk w g 142 (rcells ⟨#[]⟩ (some ⟨q, 0, none⟩) (T.node a b).dp (a.tx ++ b.tx)) ∧ Blk w q 171 #[.pointer (some ⟨ga, 0, none⟩), .pointer (some ⟨gb, 0, none⟩)] ∧ RT w ga a ∧ RT w gb b
theorem RT.lt {w : World} {g : Nat} {t : T} (h : RT w g t) : g < w.heap.size := by
  cases t with
  | leaf s => exact Blk.lt h
  | node a b => obtain ⟨q, ga, gb, h1, _⟩ := h; exact h1.lt
theorem RT.below {w w' : World} (hb : Below w.heap.size w w') : ∀ {g : Nat} {t : T}, RT w g t → RT w' g t := by
  intro g t
  induction t generalizing g with
  | leaf s => intro h; exact Blk.below h hb (Blk.lt h)
  | node a b iha ihb =>
    rintro ⟨q, ga, gb, h1, h2, h3, h4⟩
    exact ⟨q, ga, gb, h1.below hb h1.lt, h2.below hb h2.lt, iha h3, ihb h4⟩
/-- The block of a rope, whatever it is. -/
theorem RT.blk {w : World} {g : Nat} {t : T} (h : RT w g t) : ∃ s p, Blk w g 142 (rcells s p t.dp t.tx) := by
  cases t with
  | leaf s => exact ⟨s, none, h⟩
  | node a b => obtain ⟨q, ga, gb, h1, _⟩ := h; exact ⟨_, _, h1⟩
/-- A rope that may be nil. -/
def RO (w : World) (v : Value) : Option T → Prop
  | none => v = .pointer none
  | some t => ∃ g, v = .pointer (some ⟨g, 0, none⟩) ∧ RT w g t
theorem RO.below {w w' : World} {v : Value} {o : Option T} (h : RO w v o) (hb : Below w.heap.size w w') : RO w' v o := by
  cases o with
  | none => exact h
  | some t => obtain ⟨g, h1, h2⟩ := h; exact ⟨g, h1, h2.below hb⟩
def otx : Option T → List UInt8
  | none => []
  | some t => t.tx
def ook : Option T → Prop
  | none => True
  | some t => t.ok
def odp : Option T → Nat
  | none => 0
  | some t => t.dp
end Go.Proofs.Ytddbhoilhapljaa
