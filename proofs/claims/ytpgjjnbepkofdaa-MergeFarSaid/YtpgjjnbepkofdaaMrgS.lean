/-
  A part of a slice of strings, as one step of a walk: what it is and what it reads.
-/
import Derived.Test.YtpgjjnbepkofdaaMade
import Derived.Test.YtpgjjnbepkofdaaMrgR
namespace Go.Proofs.Ytpgjjnbepkofdaa
open Go.RowKit
set_option linter.unusedVariables false
set_option linter.unusedSimpArgs false

theorem slice_part {w W : World} {A : Option Addr} {c : Nat} {ss : List ByteArray} (h : SRow w (.slice A ss.length c) ss) (hb : Below w.heap.size w W) (hc : ss.length ≤ c) (lo hi : Nat) (h1 : lo ≤ hi) (h2 : hi ≤ ss.length) :
    ∃ A' c', (∀ wx, (Instr.slice 24 (.slice A ss.length c) (some (.int .i64 (lo : Int))) (some (.int .i64 (hi : Int))) none).run Try.prog wx = .ok (.slice A' (hi - lo) c') wx) ∧ Reads W w.heap.size 1 A' (hi - lo) (((ss.take hi).drop lo).map .string) := by
  have e : ∀ wx, (Instr.slice 24 (.slice A ss.length c) (some (.int .i64 (lo : Int))) (some (.int .i64 (hi : Int))) none).run Try.prog wx = .ok (sliced A lo hi c 1) wx := fun wx => by
    rw [run_slice_lh (w := wx) 24 _ _ _ (by kernel_rfl) _ _ _ _ (by omega) (by omega) (by omega)]
    kernel_rfl
  refine ⟨_, _, e, ?_⟩
  rcases Nat.lt_or_ge lo hi with hlt | hge
  · obtain ⟨b, o, rfl, _, _⟩ := Row.srow_plain h (by omega)
    rw [if_neg (by omega)]
    have := part_reads h hb b o rfl lo hi hlt h2
    simp only [Option.map_some, add_plain, Int.toNat_natCast, Nat.mul_one]
    exact this
  · have hz : hi - lo = 0 := by omega
    rw [hz]
    exact part_none _ _ ss lo hi hge
/-- All that the rest of a round of Merge holds. -/
structure MSt (w W : World) (zz ga gb : Nat) (L xl yl tx ty : List HV) (va vb vx vy vo : Value) (out : List ByteArray) : Prop where
  ow : W.ownsRow zz 9 1 vo out.length (out.map .string)
  ox : ∃ b, W.ownsRow b 147 3 vx tx.length (cellsOf hvc tx)
  oy : ∃ b, W.ownsRow b 147 3 vy ty.length (cellsOf hvc ty)
  a : Side W w.heap.size W.heap.size ga xl va
  b : Side W w.heap.size W.heap.size gb yl vb
  l : LinesIn W w.heap.size L
  low : ∀ x ∈ L, ∀ q, offBlock x.v = some q → q < zz
  be : Below w.heap.size w W
  z : zz ≤ W.heap.size
  zw : w.heap.size ≤ zz
/-- Rows of two kinds lie in two blocks. -/
theorem own_ne_kind {W : World} {B B' s s' n n' : Nat} {e e' : TypeId} {v v' : Value} {xs xs' : List Value} (h : W.ownsRow B e s v n xs) (h' : W.ownsRow B' e' s' v' n' xs') (hne : e ≠ e') : v.ownBlock = none ∨ v.ownBlock ≠ v'.ownBlock := by
  rcases own_blk h with h1 | ⟨g, cs, h1, h2⟩
  · exact .inl h1
  · refine .inr fun e1 => ?_
    exact own_blk_ne h' h2 (fun e2 => hne e2.symm) (e1.symm.trans h1)
theorem off_ne_kind {W : World} {B B' s s' n n' : Nat} {e e' : TypeId} {v v' : Value} {xs xs' : List Value} (h : OffRow W B e s v n xs) (h' : W.ownsRow B' e' s' v' n' xs') (hne : e ≠ e') : offBlock v = none ∨ offBlock v ≠ v'.ownBlock := off_none_or fun g eg => by
  rcases own_blk h' with e1 | ⟨g', cs, e1, e2⟩
  · rw [e1] at eg; cases eg
  · rw [e1] at eg; injection eg with eg; subst eg
    exact off_blk_ne h e2 hne
section
variable {w W W' : World} {zz ga gb : Nat} {L xl yl tx ty : List HV} {va vb vx vy vo : Value} {out : List ByteArray}
theorem MSt.below (h : MSt w W zz ga gb L xl yl tx ty va vb vx vy vo out) (hb : Below W.heap.size W W') : MSt w W' zz ga gb L xl yl tx ty va vb vx vy vo out :=
  ⟨own_below h.ow hb, h.ox.imp fun _ o => own_below o hb, h.oy.imp fun _ o => own_below o hb, (h.a.below hb).up hb.size, (h.b.below hb).up hb.size, h.l.below hb, h.low, h.be.trans (hb.mono h.be.size), Nat.le_trans h.z hb.size, h.zw⟩
theorem MSt.app {vo' : Value} {out' : List ByteArray} (h : MSt w W zz ga gb L xl yl tx ty va vb vx vy vo out) (ho : W'.ownsRow zz 9 1 vo' out'.length (out'.map .string)) (hg : W.grownBy W' vo.ownBlock) : MSt w W' zz ga gb L xl yl tx ty va vb vx vy vo' out' :=
  ⟨ho, h.ox.imp fun _ o => o.kept hg (own_ne_kind o h.ow (by decide)), h.oy.imp fun _ o => o.kept hg (own_ne_kind o h.ow (by decide)),
   ⟨h.a.blk.grown hg (fun e => own_blk_ne h.ow h.a.blk (by decide) e.symm), h.a.row.kept hg (off_ne_kind h.a.row h.ow (by decide)), fun q e => Nat.lt_of_lt_of_le (h.a.low q e) hg.size⟩,
   ⟨h.b.blk.grown hg (fun e => own_blk_ne h.ow h.b.blk (by decide) e.symm), h.b.row.kept hg (off_ne_kind h.b.row h.ow (by decide)), fun q e => Nat.lt_of_lt_of_le (h.b.low q e) hg.size⟩,
   fun x hx => (h.l x hx).kept hg (off_none_or fun g eg e => by have := (h.ow.lt g eg).1; have := h.low x hx g e; omega),
   h.low, h.be.grown hg h.be.size (fun q hq => Nat.le_trans h.zw (h.ow.lt q hq).1), Nat.le_trans h.z hg.size, h.zw⟩
/-- A row of lines that lies apart from what is gathered. -/
structure MU (W : World) (vo vu : Value) (u : List ByteArray) : Prop where
  own : ∃ b, W.ownsRow b 9 1 vu u.length (u.map .string)
  ap : ∀ q, vu.ownBlock = some q → vo.ownBlock ≠ some q
theorem MU.below {u : List ByteArray} {vu : Value} (h : MU W vo vu u) (hb : Below W.heap.size W W') : MU W' vo vu u := ⟨h.own.imp fun _ o => own_below o hb, h.ap⟩
theorem MU.app {u : List ByteArray} {vo' vu : Value} (h : MU W vo vu u) (hg : W.grownBy W' vo.ownBlock) (hat : vo'.ownBlock = vo.ownBlock ∨ vo'.ownBlock = some W.heap.size) : MU W' vo' vu u := by
  obtain ⟨b, ho⟩ := h.own
  refine ⟨⟨b, ho.kept hg ?_⟩, fun q e1 e2 => ?_⟩
  · cases e : vu.ownBlock with
    | none => exact .inl rfl
    | some g => exact .inr fun e2 => h.ap g e e2.symm
  · rcases hat with e3 | e3
    · exact h.ap q e1 (e3 ▸ e2)
    · rw [e3] at e2; injection e2 with e2
      have := (ho.lt q e1).2
      omega
theorem MU.new {B : Nat} {u : List ByteArray} {vu : Value} (ho : W.ownsRow B 9 1 vu u.length (u.map .string)) (h : ∀ q, vo.ownBlock = some q → q < B) : MU W vo vu u :=
  ⟨⟨B, ho⟩, fun q e1 e2 => by have := (ho.lt q e1).1; have := h q e2; omega⟩
theorem MU.srow {u : List ByteArray} {vu : Value} (h : MU W vo vu u) : SRow W vu u := by
  obtain ⟨b, ho⟩ := h.own
  exact SRow.of_off (OffRow.of_own ho)
theorem MU.reads {u : List ByteArray} {A : Option Addr} {n c : Nat} (h : MU W vo (.slice A n c) u) : Reads W W.heap.size 1 A u.length (u.map .string) := by
  obtain ⟨A', c', e, _, _, h4⟩ := h.srow
  injection e with e1 e2 e3
  subst e1
  exact h4
end
theorem reads_new (W : World) (u : Value) (t : TypeId) : Reads (W.alloc (.cells #[u] t)) (W.heap.size + 1) 1 (some ⟨W.heap.size, 0, none⟩) 1 [u] :=
  ⟨rfl, fun _ => ⟨_, rfl, Nat.lt_succ_self _, new_cells W [u] t⟩⟩
theorem below_new (W : World) (o : Obj) : Below W.heap.size W (W.alloc o) := (Below.refl _ _).alloc (Nat.le_refl _) o
theorem ok_len {n a b : Nat} (ha : n ≤ a + b) (h1 : a ≤ 500000000) (h2 : b ≤ 500000000) : n ≤ maxLen ∧ n * 16 ≤ 140737488355328 :=
  have h : n ≤ 1000000000 := Nat.le_trans ha (Nat.add_le_add h1 h2)
  ⟨Nat.le_trans h (by decide), Nat.le_trans (Nat.mul_le_mul_right 16 h) (by decide)⟩
end Go.Proofs.Ytpgjjnbepkofdaa
