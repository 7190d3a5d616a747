/-
  The walk of the closure of words.Of: a place is noted at a word of a table.
-/
import Derived.Test.YtpgjjnbepkofdaaWrdG
namespace Go.Proofs.Ytpgjjnbepkofdaa
open Go.RowKit Go.WideMaps Go.Maps Go.ChangeShapes Go.ChangeMaps
set_option linter.unusedVariables false
set_option linter.unusedSimpArgs false

theorem int_info2 : (Try.prog.info? 3).map (fun i => (i.zero, i.size, i.bytes)) = some (some (.int .i64 0), 1, 8) := by kernel_rfl
/-- A table in memory, and the variable that holds it. -/
structure TabSt (W : World) (bv b base n : Nat) (g : ByteArray → List Int) : Prop where
  blk : Blk W bv 76 #[.map (some b)]
  tbl : Tbl W b base n g
  low : base ≤ W.heap.size
theorem Tbl.lt {w : World} {b base n : Nat} {g : ByteArray → List Int} (h : Tbl w b base n g) : b < w.heap.size ∧ b < base := by
  obtain ⟨D, ⟨es, clock, hb, F, _, _, hlt, _⟩, _⟩ := h
  exact ⟨(Array.getElem?_eq_some_iff.1 hb).1, hlt⟩
section
variable {P : Program} {I : World → Prop}
theorem wpR_append_w {w : World} {ops : Array Oper} {Q : Exit → Act → World → Prop} {tail r : List Oper} {o : Oper} {a : Act} (hgd : o.guard = none) (s x : Operand) (t : TypeId)
    (ho : o.op = .call { callee := .builtin .append, args := #[s, x], argTypes := #[t, t] })
    (base : Nat) (e : TypeId) (z : Value) (size bytes : Nat) (ht : P.underlying t = some (.slice e)) (hi : (P.info? e).map (fun i => (i.zero, i.size, i.bytes)) = some (some z, size, bytes)) (hzs : z.cells.size = size) (hsz : 0 < size)
    (v : Value) (n : Nat) (xs : List Value) (hs : a.eval s = v) (hown : w.ownsRow base e size v n xs)
    (B : Nat) (A : Option Addr) (m c : Nat) (news : List Value) (hx : a.eval x = .slice A m c) (hr : Reads w B size A m news) (h1 : ∀ u ∈ news, u.oneCell' = true)
    (h63 : n + m ≤ maxLen) (hbytes : (n + m) * bytes ≤ 140737488355328) (hbase : base ≤ w.heap.size)
    (h : ∀ v' w', w'.ownsRow base e size v' (n + m) (xs ++ news) → w.grownBy w' v.ownBlock → (v'.ownBlock = v.ownBlock ∨ v'.ownBlock = some w.heap.size) → I w' ∧ ∀ w2, Below w'.heap.size w' w2 → I w2 → wpR P ops I Q tail r (a.put o.dst v') w2) : wpR P ops I Q tail (o :: r) a w := by
  obtain ⟨i, hi0, hz0, hzz, hzb⟩ := info_parts hi
  obtain ⟨v', w', hrun, h2, h3, h4⟩ := run_append_any (P := P) w base t o.type e i z size bytes ht hi0 hz0 hzz hzb hzs hsz v n xs hown B A m c news hr h1 h63 hbytes hbase
  have hw : Region.wanted o (yielded ops a.tmps) = true := by simp [Region.wanted, hgd]
  unfold wpR ROp
  rw [if_pos hw]
  unfold execOp
  simp only [ho, resolve, invoke, builtin, Sem.run_bind, Sem.run_pure, Result.andThen_ok, List.map_toArray, List.map_cons, List.map_nil, hs, hx, hrun, RUpon]
  exact h v' w' h2 h3 h4
end
def noted (g : ByteArray → List Int) (s : ByteArray) (p : Int) : ByteArray → List Int := fun x => if x = s then g s ++ [p] else g x
theorem Still0 {W W1 : World} {bv b : Nat} (h : W1.heap[bv]? = W.heap[bv]? ∧ W1.heap[b]? = W.heap[b]?) (hv : bv < W.heap.size) (hb : b < W.heap.size) : bv < W1.heap.size ∧ b < W1.heap.size := by
  obtain ⟨h1, h2⟩ := h
  rw [Array.getElem?_eq_getElem hv] at h1
  rw [Array.getElem?_eq_getElem hb] at h2
  exact ⟨(Array.getElem?_eq_some_iff.1 h1).1, (Array.getElem?_eq_some_iff.1 h2).1⟩
/-- The variable and the map are as they were. -/
def Still (W : World) (bv b : Nat) (W' : World) : Prop := W'.heap[bv]? = W.heap[bv]? ∧ W'.heap[b]? = W.heap[b]?
theorem Still.below {W W1 W2 : World} {bv b B : Nat} (h : Still W bv b W1) (hb : Below B W1 W2) (h1 : bv < B) (h2 : b < B) : Still W bv b W2 := ⟨(hb.block bv h1).trans h.1, (hb.block b h2).trans h.2⟩
theorem Still.grown {W W1 W2 : World} {bv b : Nat} {row : Option Nat} (h : Still W bv b W1) (hg : W1.grownBy W2 row) (h1 : bv < W1.heap.size) (h2 : b < W1.heap.size) (hr : some bv ≠ row) (hr2 : some b ≠ row) : Still W bv b W2 := ⟨(hg.block bv h1 hr).trans h.1, (hg.block b h2 hr2).trans h.2⟩
set_option maxRecDepth 100000 in
set_option maxHeartbeats 4000000 in
theorem of1_any (bv b base n : Nat) (g : ByteArray → List Int) (s : ByteArray) (p : Int) (w : World) (h : TabSt w bv b base n g) (hs : s.size ≤ maxLen) (hn : n ≤ 1000000) (hp : 0 ≤ p ∧ p ≤ 1000000000) :
    Calls Try.prog 73 #[.string s, .int .i64 p, .pointer (some ⟨bv, 0, none⟩)] w fun e w' => e = .returned (.tuple #[]) ∧ TabSt w' bv b base (n + 1) (noted g s p) ∧ ∀ B, B ≤ b → Below B w w' := by
  obtain ⟨hv, ⟨D, hown, hD⟩, hlow⟩ := h
  obtain ⟨hb1, hb2⟩ := Tbl.lt ⟨D, hown, hD⟩
  have hkey : keyOf Try.prog 9 (.string s) = some (.string s.data.toList) := keyOf_string_mk Try.underlying9 hs
  obtain ⟨v, zs, hrun, hat, hoi, hzl, hback⟩ := look_all hown table_law Try.underlying76 zeroInts (by unfold maxLen; omega) hkey
  have hzg : zs = g s := datI_eq hoi ((hD s hs).1.symm.trans hat)
  obtain ⟨i0, hi, hz0, hz1, hz2⟩ := info_parts int_info2
  have c0 := hv.cell 0
  have hvl := hv.lt
  have hbvb : bv ≠ b := by
    obtain ⟨es, clock, hb, _⟩ := id hown
    rintro rfl
    unfold Blk at hv
    rw [hb] at hv
    cases hv
  have HR := Lib.hid hrun
  have HAT := Lib.hid hat
  have HOI := Lib.hid hoi
  have HB := Lib.hid hback
  have HD := Lib.hid hD
  have HM := Lib.hid (ownsGroups_isMap hown)
  have HZG := Lib.hid hzg
  have HV := Lib.hid hv
  clear hrun hat hoi hback hD hown hzg hv hkey
  go_enter Try.func73, Try.ntmps73
  go_wp2_with fail
  refine wp_region_mix 6 2 (Still w bv b) (by kernel_rfl) (by kernel_rfl) (fun _ _ h1 h2 => h1.below h2 (Still0 h1 hvl hb1).1 (Still0 h1 hvl hb1).2) ⟨rfl, rfl⟩ ?_
  intro ι F hne hF
  have c0F : ∀ i, (F i).cell? ⟨bv, 0, none⟩ = some (.map (some b)) := fun i => by
    have : Blk (F i) bv 76 #[.map (some b)] := (hF i).1.trans HV.out
    exact this.cell 0
  have lkF : ∀ i, (Instr.lookup 76 (.map (some b)) (.string s) false).run Try.prog (F i) = .ok v (F i) := fun i => HR.out (F i) (hF i).2
  simp only [List.take_succ_cons, List.take_zero, List.drop_succ_cons, List.drop_zero]
  repeat (refine wpB_step (fun K hK => ?_); go_simp; first | (refine hK _ ?_; clear hK K) | (apply Exists.intro; refine ⟨fun _ => ?_, hK _ ?_⟩; (fail); clear hK K))
  refine wpB_nil ?_
  intro w2 hw2 hI2
  clear c0F lkF hF c0
  have hs2 := Still0 hI2 hvl hb1
  (refine wpR_step (fun K hK => ?_); go_simp; refine hK _ _ ⟨hI2.below ((Below.refl _ _).alloc (Nat.le_refl _) _) hs2.1 hs2.2, ?_⟩; clear hK K)
  intro w3 hw3 hI3
  have hb3 : Below w.heap.size w w3 := bstep (hw2.alloc hw2.size _) hw3
  have ho3 := own_below HOI.out.1 hb3
  have hr3 := (Reads.new w2 [.int .i64 p] 3 1 rfl).below hw3
  have hlow3 : base ≤ w3.heap.size := Nat.le_trans hlow hb3.size
  clear hw3 hw2 hI2 hs2
  refine wpR_append_w rfl (.tmp 9) (.tmp 11) _ rfl base 3 _ 1 8 Try.underlying22 int_info2 rfl (by decide) v zs.length (zs.map (Value.int .i64)) rfl ho3 _ (some ⟨w2.heap.size, 0, none⟩) 1 1 [.int .i64 p] rfl hr3 (by simp [Value.oneCell']) (by unfold maxLen; omega) (by omega) hlow3 ?_
  intro v' w4 ho4 hg4 hat4
  have hs3 := Still0 hI3 hvl hb1
  have hbv : some bv ≠ v.ownBlock := fun e => own_blk_ne HOI.out.1 HV.out (by decide) e.symm
  have hbb : some b ≠ v.ownBlock := fun e => by have := (HOI.out.1.lt b e.symm).1; omega
  have hI4 := hI3.grown hg4 hs3.1 hs3.2 hbv hbb
  refine ⟨hI4, ?_⟩
  intro w5 hw5 hI5
  have ho5 := own_below ho4 hw5
  have hg5 := ((grown_of_below hb3 v.ownBlock).trans hg4).trans (grown_of_below hw5 v.ownBlock)
  have hwf : (Lit.int .i64 p).wf = true := WalkArith.wf_i64 (by omega)
  have hoi5 : w5.ownsInts base 3 .i64 v' (zs ++ [p]) := by
    refine ⟨by simpa using ho5, fun z hz => ?_⟩
    rcases List.mem_append.1 hz with hz | hz
    · exact HOI.out.2 z hz
    · rw [List.mem_singleton.1 hz]; exact hwf
  have hloc : v'.ownBlock = v.ownBlock ∨ ∃ q, v'.ownBlock = some q ∧ w.heap.size ≤ q := hat4.imp id (fun e => ⟨_, e, hb3.size⟩)
  have HG5 := Lib.hid hg5
  have HOI5 := Lib.hid hoi5
  have HLOC := Lib.hid hloc
  have HI5 := Lib.hid hI5
  clear ho4 hg4 hat4 hI4 hw5 hI5 ho5 hg5 hoi5 hloc hb3 ho3 hr3 hI3 hs3 hwf
  refine wpR_nil ?_
  go_wp2_with (at_mapUpdate; refine wpList_mapUpdate_back _ rfl _ _ _ 76 rfl HB.out rfl rfl rfl HG5.out HOI5.out (by simp; omega) HLOC.out ?_)
  intro w6 hown6 hg6
  have BV6 : Blk w6 bv 76 #[.map (some b)] := (hg6.block bv (Nat.lt_of_lt_of_le hvl HG5.out.size) (fun e => hbvb (Option.some.inj e))).trans (HI5.out.1.trans HV.out)
  have TB6 := Tbl.put HD.out HM.out hs (show zs ++ [p] ≠ [] by simp) HOI5.out hown6
  rw [HZG.out] at TB6
  have BE6 : ∀ B, B ≤ b → Below B w w6 := fun B hB => (Below.refl B w).groups HOI.out HG5.out hg6 (by omega) (by omega) hB
  have LO6 : base ≤ w6.heap.size := Nat.le_trans hlow (Nat.le_trans HG5.out.size hg6.size)
  have H6 := Lib.hid (And.intro (TabSt.mk (g := noted g s p) BV6 TB6 LO6) BE6)
  clear hown6 hg6 BV6 TB6 BE6 LO6
  go_wp2_with fail
  go_end0
  exact ⟨rfl, H6.out.1, H6.out.2⟩
end Go.Proofs.Ytpgjjnbepkofdaa
