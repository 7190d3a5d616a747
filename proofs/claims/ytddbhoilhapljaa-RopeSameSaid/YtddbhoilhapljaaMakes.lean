/-
  The walk of Makes: the operations that it makes are such as may be.
-/
import Derived.Test.YtddbhoilhapljaaMakesP
import Derived.Test.YtddbhoilhapljaaRopeR
import Derived.Test.YtddbhoilhapljaaText
import Derived.Test.YtddbhoilhapljaaMake
import Derived.StillTailTactics
namespace Go.Proofs.Ytddbhoilhapljaa
open Go.RowKit
set_option linter.unusedVariables false

def lsc (n : Nat) : Value := .int .i64 (n : Int)
def MakesPost (w : World) (e : Ending) (w' : World) : Prop := ∃ v os, e = .returned v ∧ w'.ownsRow w.heap.size 66 6 v os.length (cellsOf roc os) ∧ vldT [] os ∧ os.length ≤ 40 ∧ Below w.heap.size w w'
theorem picked_lit (a n : Int) (ha : Ib a) (hn : 0 < n) (hn2 : n ≤ 4611686018427387904) : ∃ q : Nat, (q : Int) < n ∧ ∀ W, Calls Try.prog 15 #[.int .i64 a, .int .i64 n] W fun e w' => e = .returned (.int .i64 (q : Int)) ∧ W = w' := by
  have h1 := Int.emod_nonneg a (show n ≠ 0 by omega)
  have h2 := Int.emod_lt_of_pos a hn
  refine ⟨(a % n).toNat, by omega, fun W => ?_⟩
  have h := picked_any a n W ha hn hn2
  have e : ((a % n).toNat : Int) = a % n := by omega
  rwa [e]
def put6 (w : World) (g : Nat) (a b c d e f : Value) : World := (((((w.setCell ⟨g, 0, none⟩ a).setCell ⟨g, 1, none⟩ b).setCell ⟨g, 2, none⟩ c).setCell ⟨g, 3, none⟩ d).setCell ⟨g, 4, none⟩ e).setCell ⟨g, 5, none⟩ f
theorem put6_blk {w : World} {g : Nat} {t : TypeId} {a b c d e f u0 u1 u2 u3 u4 u5 : Value} (h : Blk w g t #[u0, u1, u2, u3, u4, u5]) : Blk (put6 w g a b c d e f) g t #[a, b, c, d, e, f] := by
  have := (((((h.set_ 0 a).set_ 1 b).set_ 2 c).set_ 3 d).set_ 4 e).set_ 5 f
  exact this
theorem put6_far {w : World} {g k : Nat} {t : TypeId} {cs : Array Value} {a b c d e f : Value} (h : Blk w k t cs) (hk : k ≠ g) : Blk (put6 w g a b c d e f) k t cs :=
  (((((h.far (p := ⟨g, 0, none⟩) hk a).far (p := ⟨g, 1, none⟩) hk b).far (p := ⟨g, 2, none⟩) hk c).far (p := ⟨g, 3, none⟩) hk d).far (p := ⟨g, 4, none⟩) hk e).far (p := ⟨g, 5, none⟩) hk f
theorem put6_own {w : World} {base g : Nat} {el : TypeId} {size n : Nat} {v : Value} {xs : List Value} {a b c d e f : Value} (h : w.ownsRow base el size v n xs) (hk : v.ownBlock ≠ some g) : (put6 w g a b c d e f).ownsRow base el size v n xs :=
  own_far (own_far (own_far (own_far (own_far (own_far h ⟨g, 0, none⟩ a hk) ⟨g, 1, none⟩ b hk) ⟨g, 2, none⟩ c hk) ⟨g, 3, none⟩ d hk) ⟨g, 4, none⟩ e hk) ⟨g, 5, none⟩ f hk
theorem put6_below {w w0 : World} {B g : Nat} {a b c d e f : Value} (h : Below B w0 w) (hk : B ≤ g) : Below B w0 (put6 w g a b c d e f) :=
  (((((h.setCell (p := ⟨g, 0, none⟩) hk a).setCell (p := ⟨g, 1, none⟩) hk b).setCell (p := ⟨g, 2, none⟩) hk c).setCell (p := ⟨g, 3, none⟩) hk d).setCell (p := ⟨g, 4, none⟩) hk e).setCell (p := ⟨g, 5, none⟩) hk f
theorem put6_cell {w : World} {g : Nat} {a b c d e f : Value} {k o : Nat} (hk : k ≠ g) : (put6 w g a b c d e f).cell? ⟨k, o, none⟩ = w.cell? ⟨k, o, none⟩ := by
  have hne : ∀ i, (⟨g, i, none⟩ : Addr) ≠ ⟨k, o, none⟩ := fun i h => hk (by injection h with h; exact h.symm)
  unfold put6
  rw [World.cell?_setCell_other _ _ _ _ (hne 5), World.cell?_setCell_other _ _ _ _ (hne 4), World.cell?_setCell_other _ _ _ _ (hne 3), World.cell?_setCell_other _ _ _ _ (hne 2), World.cell?_setCell_other _ _ _ _ (hne 1), World.cell?_setCell_other _ _ _ _ (hne 0)]
theorem wpList_at {P : Program} {ops : Array Oper} {l : List Oper} {a : Act} {Q : Exit → Act → World → Prop} {w W : World} (h : w = W) (k : wpList P ops Q l a W) : wpList P ops Q l a w := by rw [h]; exact k
theorem own_drewN {w : World} {base n : Nat} {el : TypeId} {size : Nat} {v : Value} {xs : List Value} (h : w.ownsRow base el size v n xs) (k : Nat) : (w.drewN k).ownsRow base el size v n xs := h
theorem own_lt_ne {w : World} {base n g : Nat} {el : TypeId} {size : Nat} {v : Value} {xs : List Value} (h : w.ownsRow base el size v n xs) (hg : w.heap.size ≤ g) : v.ownBlock ≠ some g := by
  intro e; have := (h.lt _ e).2; omega

theorem rok_text (ls : List Nat) (tx : ByteArray) (ht : tx.size ≤ 30) (hl : ls.length < 60) : rok ls ⟨1, tx, 0, 0, 0, 0⟩ :=
  ⟨Nat.le_refl _, show 1 ≤ 5 by decide, fun h => absurd rfl h, fun h => absurd h (show ¬ (1 = 2) by decide), fun h => absurd h (show ¬ (1 = 3 ∨ 1 = 4) by decide), fun h => absurd h (show ¬ (1 = 5) by decide), hl, Nat.zero_le _, Nat.zero_le _, Nat.zero_le _, Nat.zero_le _, show tx.size ≤ 600 by omega⟩
theorem rok_any (ls : List Nat) (tx : ByteArray) (q5 qa qb qt q3 : Nat) (h5 : q5 ≤ 4) (ha : qa < ls.length) (hb : qb < ls.length) (hl : ls.length ≤ 40) (ht : qt ≤ ls.getD qa 0) (h3 : q3 ≤ 2) (hx : tx.size ≤ 30) (hs : ls.getD qa 0 ≤ 600) (h9 : 0 ≤ q5) : rok ls ⟨1 + q5, tx, qa, qb, qt, q3⟩ :=
  ⟨show 1 ≤ 1 + q5 by omega, show 1 + q5 ≤ 5 by omega, fun _ => ha, fun _ => hb, fun _ => ht, fun _ => show q3 ≤ 4 by omega, by omega, show qa ≤ 100 by omega, show qb ≤ 100 by omega, show qt ≤ 600 by omega, show q3 ≤ 100 by omega, show tx.size ≤ 600 by omega⟩
set_option maxRecDepth 100000 in
set_option maxHeartbeats 8000000 in
theorem makes_any (v : Value) (ms : List Mke) (w : World) (h : Mkes w v ms) :
    Calls Try.prog 30 #[v, .int .i64 40] w (MakesPost w) := by
  obtain ⟨A, c, rfl, hl, hc, hr⟩ := h
  unfold maxLen at hc
  have HR := Lib.hid hr
  clear hr
  go_enter Try.func30, Try.ntmps30
  go_wp2_with fail
  go_loopw [5, 6, 7] (fun vo vs i wr => ∃ (k : Nat) (os : List Ro) (ls : List Nat), k ≤ ms.length ∧ k ≤ 40 ∧ i = .int .i64 k ∧ os.length = k ∧ Hid (MkI os ls) ∧ wr.ownsRow w.heap.size 66 6 vo k (cellsOf roc os) ∧ wr.ownsRow w.heap.size 3 1 vs ls.length (ls.map lsc) ∧ Below w.heap.size w wr) (fun _ _ i _ => ms.length - (intOf i).toNat)
  case atStart => exact ⟨0, [], [], by omega, by omega, rfl, rfl, Lib.hid mkI_nil, World.ownsRow_nil _ _ _ _, World.ownsRow_nil _ _ _ _, Below.refl _ _⟩
  case round =>
    obtain ⟨k, os, ls, hk, hk4, rfl, hos, HI, ho, hs, hb⟩ := hrel
    obtain ⟨Ao, co, rfl, hao1, hao2⟩ := own_slice ho
    obtain ⟨As, cs, rfl, has1, has2⟩ := own_slice hs
    have hll : ls.length ≤ 40 := by have := HI.out.len; omega
    by_cases hlt : k < ms.length
    · by_cases hlt4 : k < 40
      · obtain ⟨b, off, rfl, hbl, hcell⟩ := HR.out (by omega)
        obtain ⟨v0, v1, v2, v3, v4, c0, c1, c2, c3, c4, hm⟩ := hcell k ms[k] (List.getElem?_eq_getElem hlt)
        replace hm := hm.later hb
        rw [← hb.cell (p := ⟨b, _, none⟩) hbl] at c0 c1 c2 c3 c4
        generalize ms[k] = x at *
        obtain ⟨rfl, hmt, rfl, rfl, rfl, ik, ia, ib, iat⟩ := hm
        obtain ⟨q6, hq6, K6⟩ := picked_lit x.k 6 ik (by omega) (by omega)
        obtain ⟨q5, hq5, K5⟩ := picked_lit x.k 5 ik (by omega) (by omega)
        obtain ⟨q3, hq3, K3⟩ := picked_lit x.at_ 3 iat (by omega) (by omega)
        have HPA := Lib.hid (picked_lit x.a (ls.length : Int) ia)
        have HPB := Lib.hid (picked_lit x.b (ls.length : Int) ib)
        have HPT := Lib.hid (fun n : Int => picked_lit x.at_ n iat)
        have K6 := Lib.hid K6
        have K5 := Lib.hid K5
        have K3 := Lib.hid K3
        generalize x.k = xk at *
        generalize x.a = xa at *
        generalize x.b = xb at *
        generalize x.at_ = xat at *
        have HTX := Lib.hid (fun cs1 : Array Value => textOf_is v1 x.t 30 _ (hmt.later (((Below.refl wr.heap.size wr).alloc (Nat.le_refl _) (.cells cs1 106)))) (by omega) (by omega))
        obtain ⟨At, ct, hv1, hat1, hat2, _⟩ := hmt
        subst hv1
        have htx : (⟨((x.t.take (30 : Int).toNat).map letter).toArray⟩ : ByteArray).size ≤ 30 := by simp [ByteArray.size]; omega
        generalize (⟨((x.t.take (30 : Int).toNat).map letter).toArray⟩ : ByteArray) = tx at *
        have hsw := hb.size
        have HOS := Lib.hid hos
        clear hcell HR
        have hG1 : Blk ((wr.alloc (.cells #[.int .i64 xk, .slice At x.t.length ct, .int .i64 xa, .int .i64 xb, .int .i64 xat] 106)).alloc (.cells #[.int .i64 1, .string tx, .int .i64 0, .int .i64 0, .int .i64 0, .int .i64 0] 66)) wr.heap.size 106 #[.int .i64 xk, .slice At x.t.length ct, .int .i64 xa, .int .i64 xb, .int .i64 xat] := (Blk.new wr _ _).alloc _
        have hG2 : Blk ((wr.alloc (.cells #[.int .i64 xk, .slice At x.t.length ct, .int .i64 xa, .int .i64 xb, .int .i64 xat] 106)).alloc (.cells #[.int .i64 1, .string tx, .int .i64 0, .int .i64 0, .int .i64 0, .int .i64 0] 66)) (wr.heap.size + 1) 66 #[.int .i64 1, .string tx, .int .i64 0, .int .i64 0, .int .i64 0, .int .i64 0] := by
          have := Blk.new (wr.alloc (.cells #[.int .i64 xk, .slice At x.t.length ct, .int .i64 xa, .int .i64 xb, .int .i64 xat] 106)) 66 #[.int .i64 1, .string tx, .int .i64 0, .int .i64 0, .int .i64 0, .int .i64 0]
          simpa using this
        have HO := Lib.hid ((ho.alloc (.cells #[.int .i64 xk, .slice At x.t.length ct, .int .i64 xa, .int .i64 xb, .int .i64 xat] 106)).alloc (.cells #[.int .i64 1, .string tx, .int .i64 0, .int .i64 0, .int .i64 0, .int .i64 0] 66))
        have HQ := Lib.hid ((hs.alloc (.cells #[.int .i64 xk, .slice At x.t.length ct, .int .i64 xa, .int .i64 xb, .int .i64 xat] 106)).alloc (.cells #[.int .i64 1, .string tx, .int .i64 0, .int .i64 0, .int .i64 0, .int .i64 0] 66))
        have HB := Lib.hid ((hb.alloc hsw (.cells #[.int .i64 xk, .slice At x.t.length ct, .int .i64 xa, .int .i64 xb, .int .i64 xat] 106)).alloc (by simp; omega) (.cells #[.int .i64 1, .string tx, .int .i64 0, .int .i64 0, .int .i64 0, .int .i64 0] 66))
        clear hos hb
        by_cases hz : 0 < ls.length
        · by_cases hq0 : 0 < q6
          · have hzi : (0 : Int) < (ls.length : Int) := by omega
            have hq0i : (0 : Int) < (q6 : Int) := by omega
            obtain ⟨qa, hqa, KA⟩ := HPA.out hzi (by omega)
            obtain ⟨qb, hqb, KB⟩ := HPB.out hzi (by omega)
            have KA := Lib.hid KA
            have KB := Lib.hid KB
            have hqan : qa < ls.length := by omega
            have hqbn : qb < ls.length := by omega
            have hsma := HI.out.small qa
            have hsmb := HI.out.small qb
            obtain ⟨gs, cs', hvs, hgs, hgsl⟩ := hs.form hz
            injection hvs with e1 e2 e3
            subst e1
            subst e3
            have sa := hs.cells (g := gs) rfl qa (.int .i64 (ls.getD qa 0 : Int)) (by rw [List.getElem?_map, List.getD_eq_getElem?_getD, List.getElem?_eq_getElem hqan]; rfl)
            have sb := hs.cells (g := gs) rfl qb (.int .i64 (ls.getD qb 0 : Int)) (by rw [List.getElem?_map, List.getD_eq_getElem?_getD, List.getElem?_eq_getElem hqbn]; rfl)
            rw [add_head] at sa sb
            generalize hla : ls.getD qa 0 = la at *
            generalize hlb : ls.getD qb 0 = lb at *
            have HLA := Lib.hid hla
            have HLB := Lib.hid hlb
            clear hla hlb
            obtain ⟨qt, hqt, KT⟩ := HPT.out ((la : Int) + 1) (by omega) (by omega)
            have KT := Lib.hid KT
            have HNO : Hid ((Value.slice Ao k co).ownBlock ≠ some (wr.heap.size + 1)) := Lib.hid (own_lt_ne ho (by omega))
            clear ho hs HPA HPB HPT
            go_wp2_with (first | (go_at_call 20; refine (HTX.out _).mono ?_; rintro e w1 ⟨rfl, rfl⟩) | (go_at_call 15; refine (K6.out _).mono ?_; rintro e w1 ⟨rfl, rfl⟩))
            generalize hW0 : ((wr.alloc (Obj.cells #[.int .i64 xk, .slice At x.t.length ct, .int .i64 xa, .int .i64 xb, .int .i64 xat] 106)).alloc (Obj.cells #[.int .i64 1, .string tx, .int .i64 0, .int .i64 0, .int .i64 0, .int .i64 0] 66)) = W0 at *
            have HSZ : Hid (W0.heap.size = wr.heap.size + 2) := Lib.hid (by subst hW0; simp)
            have sa0 : W0.cell? ⟨gs, qa, none⟩ = some (.int .i64 (la : Int)) := by subst hW0; exact (World.cell?_alloc_lt _ _ _ (by simp; omega)).trans ((World.cell?_alloc_lt _ _ _ hgsl).trans sa)
            have sb0 : W0.cell? ⟨gs, qb, none⟩ = some (.int .i64 (lb : Int)) := by subst hW0; exact (World.cell?_alloc_lt _ _ _ (by simp; omega)).trans ((World.cell?_alloc_lt _ _ _ hgsl).trans sb)
            clear hW0 sa sb c0 c1 c2 c3 c4 HTX
            refine wp_region_still_tail 18 (by kernel_rfl) (by kernel_rfl) ?_
            change wpStill _ _ W0.drew _ _ _
            simp only [List.take_succ_cons, List.take_zero, List.drop_succ_cons, List.drop_zero]
            replace hG1 := hG1.drew
            replace hG2 := hG2.drew
            replace sa0 : W0.drew.cell? ⟨gs, qa, none⟩ = some (.int .i64 (la : Int)) := sa0
            replace sb0 : W0.drew.cell? ⟨gs, qb, none⟩ = some (.int .i64 (lb : Int)) := sb0
            replace HSZ : Hid (W0.drew.heap.size = wr.heap.size + 2) := HSZ
            replace HO := Lib.hid (World.ownsRow.drew HO.out)
            replace HQ := Lib.hid (World.ownsRow.drew HQ.out)
            replace HB := Lib.hid (HB.out.drew)
            generalize hW1 : W0.drew = W1 at *
            have d0 : W1.cell? ⟨wr.heap.size, 0, none⟩ = some (.int .i64 xk) := by rw [hG1.cell]; rfl
            have d2 : W1.cell? ⟨wr.heap.size, 2, none⟩ = some (.int .i64 xa) := by rw [hG1.cell]; rfl
            have d3 : W1.cell? ⟨wr.heap.size, 3, none⟩ = some (.int .i64 xb) := by rw [hG1.cell]; rfl
            have d4 : W1.cell? ⟨wr.heap.size, 4, none⟩ = some (.int .i64 xat) := by rw [hG1.cell]; rfl
            have f1 : W1.cell? ⟨wr.heap.size + 1, 1, none⟩ = some (.string tx) := by rw [hG2.cell]; rfl
            have p0 : W1.cell? ⟨wr.heap.size + 1, 0, none⟩ = some (.int .i64 1) := by rw [hG2.cell]; rfl
            have p2 : W1.cell? ⟨wr.heap.size + 1, 2, none⟩ = some (.int .i64 0) := by rw [hG2.cell]; rfl
            have p3 : W1.cell? ⟨wr.heap.size + 1, 3, none⟩ = some (.int .i64 0) := by rw [hG2.cell]; rfl
            have p4 : W1.cell? ⟨wr.heap.size + 1, 4, none⟩ = some (.int .i64 0) := by rw [hG2.cell]; rfl
            have p5 : W1.cell? ⟨wr.heap.size + 1, 5, none⟩ = some (.int .i64 0) := by rw [hG2.cell]; rfl
            have z0 := hG2.frozen 0
            have z1 := hG2.frozen 1
            have z2 := hG2.frozen 2
            have z3 := hG2.frozen 3
            have z4 := hG2.frozen 4
            have z5 := hG2.frozen 5
            iterate 2 still_step
            still_call ((K5.out _).mono fun _ _ hh => ⟨hh.1, hh.2.symm⟩)
            iterate 6 still_step
            still_call ((KA.out _).mono fun _ _ hh => ⟨hh.1, hh.2.symm⟩)
            iterate 3 still_step
            still_call ((KB.out _).mono fun _ _ hh => ⟨hh.1, hh.2.symm⟩)
            iterate 2 still_step
            still_call ((K3.out _).mono fun _ _ hh => ⟨hh.1, hh.2.symm⟩)
            still_step
            refine wpStill_nil ?_
            change wpList _ _ _ _ _ W0.drew
            rw [hW1]
            clear hW1
            go_wp2_with fail
            have hW3 : Hid (∀ W3, put6 W1 (wr.heap.size + 1) (.int .i64 (1 + (q5 : Int))) (.string tx) (.int .i64 (qa : Int)) (.int .i64 (qb : Int)) (.int .i64 0) (.int .i64 (q3 : Int)) = W3 →
                Blk W3 wr.heap.size 106 #[.int .i64 xk, .slice At x.t.length ct, .int .i64 xa, .int .i64 xb, .int .i64 xat] ∧ Blk W3 (wr.heap.size + 1) 66 #[.int .i64 (1 + (q5 : Int)), .string tx, .int .i64 (qa : Int), .int .i64 (qb : Int), .int .i64 0, .int .i64 (q3 : Int)] ∧
                W3.ownsRow w.heap.size 66 6 (.slice Ao k co) k (cellsOf roc os) ∧ W3.ownsRow w.heap.size 3 1 (.slice (some ⟨gs, 0, none⟩) ls.length cs) ls.length (ls.map lsc) ∧ Below w.heap.size w W3 ∧
                W3.cell? ⟨gs, qa, none⟩ = some (.int .i64 (la : Int)) ∧ W3.cell? ⟨gs, qb, none⟩ = some (.int .i64 (lb : Int))) := Lib.hid (by
              rintro W3 rfl
              exact ⟨put6_far hG1 (by omega), put6_blk hG2, put6_own HO.out HNO.out, put6_own HQ.out (by show some gs ≠ some _; intro e; injection e; omega), put6_below HB.out (by omega), (put6_cell (by omega)).trans sa0, (put6_cell (by omega)).trans sb0⟩)
            clear hG1 hG2 HO HQ HB sa0 sb0 d0 d2 d3 d4 f1 p0 p2 p3 p4 p5 z0 z1 z2 z3 z4 z5
            change Code.wp _ _ _ _ (put6 W1 (wr.heap.size + 1) (.int .i64 (1 + (q5 : Int))) (.string tx) (.int .i64 (qa : Int)) (.int .i64 (qb : Int)) (.int .i64 0) (.int .i64 (q3 : Int)))
            generalize hp6 : put6 W1 (wr.heap.size + 1) (.int .i64 (1 + (q5 : Int))) (.string tx) (.int .i64 (qa : Int)) (.int .i64 (qb : Int)) (.int .i64 0) (.int .i64 (q3 : Int)) = W3
            obtain ⟨hG1, hG2, ho3, hq3', hb3, sa3, sb3⟩ := hW3.out W3 hp6
            have HO := Lib.hid ho3
            have HQ := Lib.hid hq3'
            have HB := Lib.hid hb3
            clear hW3 hp6 ho3 hq3' hb3
            refine wp_region_still_tail 10 (by kernel_rfl) (by kernel_rfl) ?_
            change wpStill _ _ W3.drew _ _ _
            simp only [List.take_succ_cons, List.take_zero, List.drop_succ_cons, List.drop_zero]
            replace hG1 := hG1.drew
            replace hG2 := hG2.drew
            replace sa3 : W3.drew.cell? ⟨gs, qa, none⟩ = some (.int .i64 (la : Int)) := sa3
            replace sb3 : W3.drew.cell? ⟨gs, qb, none⟩ = some (.int .i64 (lb : Int)) := sb3
            replace HO := Lib.hid (World.ownsRow.drew HO.out)
            replace HQ := Lib.hid (World.ownsRow.drew HQ.out)
            replace HB := Lib.hid (HB.out.drew)
            generalize hW4 : W3.drew = W4 at *
            have d4 : W4.cell? ⟨wr.heap.size, 4, none⟩ = some (.int .i64 xat) := by rw [hG1.cell]; rfl
            have f2 : W4.cell? ⟨wr.heap.size + 1, 2, none⟩ = some (.int .i64 (qa : Int)) := by rw [hG2.cell]; rfl
            have p4 : W4.cell? ⟨wr.heap.size + 1, 4, none⟩ = some (.int .i64 0) := by rw [hG2.cell]; rfl
            have z4 := hG2.frozen 4
            have la0 : (0 : Int) ≤ (la : Int) := by omega
            have hqa0 : (0 : Int) ≤ (qa : Int) := by omega
            have hqa1 : (qa : Int) < (ls.length : Int) := by omega
            iterate 8 still_step
            still_call (by rw [IntWalk.i64_in ((la : Int) + 1) (by omega)]; exact (KT.out _).mono fun _ _ hh => ⟨hh.1, hh.2.symm⟩)
            still_step
            refine wpStill_nil ?_
            change wpList _ _ _ _ _ W3.drew
            rw [hW4]
            clear hW4
            have p0 : W4.cell? ⟨wr.heap.size + 1, 0, none⟩ = some (.int .i64 (1 + (q5 : Int))) := by rw [hG2.cell]; rfl
            have p1 : W4.cell? ⟨wr.heap.size + 1, 1, none⟩ = some (.string tx) := by rw [hG2.cell]; rfl
            have p3 : W4.cell? ⟨wr.heap.size + 1, 3, none⟩ = some (.int .i64 (qb : Int)) := by rw [hG2.cell]; rfl
            have p5 : W4.cell? ⟨wr.heap.size + 1, 5, none⟩ = some (.int .i64 (q3 : Int)) := by rw [hG2.cell]; rfl
            replace HO := Lib.hid (own_far HO.out ⟨wr.heap.size + 1, 4, none⟩ (.int .i64 (qt : Int)) HNO.out)
            replace HQ := Lib.hid (own_far HQ.out ⟨wr.heap.size + 1, 4, none⟩ (.int .i64 (qt : Int)) (by show some gs ≠ some (wr.heap.size + 1); intro e; injection e; omega))
            replace HB := Lib.hid (HB.out.setCell (p := ⟨wr.heap.size + 1, 4, none⟩) (by show _ ≤ wr.heap.size + 1; omega) (.int .i64 (qt : Int)))
            have hqtl : qt ≤ la := by omega
            have HRK := Lib.hid (rok_any ls tx q5 qa qb qt q3 (by omega) hqan hqbn (by omega) (by rw [HLA.out]; exact hqtl) (by omega) htx (by rw [HLA.out]; exact hsma) (by omega))
            have hq33 : q3 ≤ 2 := by omega
            have hqb0 : (0 : Int) ≤ (qb : Int) := by omega
            have hqb1 : (qb : Int) < (ls.length : Int) := by omega
            have HMK : Hid (∀ o : Ro, o = ⟨1 + q5, tx, qa, qb, qt, q3⟩ → mks ls o = if q5 = 0 then tx.size else if q5 = 1 then la + lb else if q5 = 2 then qt else if q5 = 3 then la - qt else q3 * la) := Lib.hid (by
              rintro o rfl
              rw [← HLA.out, ← HLB.out]
              unfold mks
              simp only [show (1 + q5 = 1) = (q5 = 0) by simp, show (1 + q5 = 2) = (q5 = 1) by simp; omega, show (1 + q5 = 3) = (q5 = 2) by simp; omega, show (1 + q5 = 4) = (q5 = 3) by simp; omega])
            clear hG1 hG2 d4
            have h5 : q5 = 0 ∨ q5 = 1 ∨ q5 = 2 ∨ q5 = 3 ∨ q5 = 4 := by omega
            rcases h5 with rfl | rfl | rfl | rfl | rfl
            · replace p0 : W4.cell? ⟨wr.heap.size + 1, 0, none⟩ = some (.int .i64 1) := p0
              have HM9 : Hid (mks ls ⟨1, tx, qa, qb, qt, q3⟩ = tx.size) := Lib.hid (HMK.out _ rfl)
              have hmk : mks ls (⟨1, tx, qa, qb, qt, q3⟩ : Ro) = tx.size := HM9.out
              have hst := mkI_step HI.out (by rw [HOS.out]; omega) (⟨1, tx, qa, qb, qt, q3⟩ : Ro) HRK.out
              rw [hmk] at hst
              have HOL := Lib.hid (show (os ++ [(⟨1, tx, qa, qb, qt, q3⟩ : Ro)]).length = k + 1 by rw [List.length_append, HOS.out]; rfl)
              have h6 : tx.size ≤ 600 := by omega
              rw [if_pos h6] at hst
              have HST := Lib.hid hst
              have h6i : ((tx.size : Nat) : Int) ≤ (600 : Int) := by omega
              clear hst hmk h6
              go_wp2_with (first | (fail) | (at_builtin; first | (refine wpList_appN rfl (.tmp 111) (.tmp 113) _ rfl w.heap.size 66 _ 6 56 Try.underlying60 op_info rfl (by decide) (.slice Ao k co) k _ rfl HO.out (roc (⟨1, tx, qa, qb, qt, q3⟩ : Ro)) rfl _ rfl (by simp) rfl (roc_one _) (by omega) (by omega) HB.out.size ?_; intro v8 w8 ho8 hB8 hg8; have HO8 := Lib.hid ho8; have HQ8 := Lib.hid (HQ.out.kept hg8 (own_ne2 HQ.out HO.out (by decide))); have HB8 := Lib.hid (hB8 _ (Nat.le_refl _) _ HB.out); obtain ⟨A8, c8, rfl, hA81, hA82⟩ := own_slice ho8; clear ho8 hg8 hB8) | (refine wpList_appN rfl (.tmp 122) (.tmp 124) _ rfl w.heap.size 3 _ 1 8 Try.underlying22 intR_info rfl (by decide) _ ls.length _ rfl HQ8.out [.int .i64 ((tx.size : Nat) : Int)] rfl _ rfl (by simp) rfl (by simp [Value.oneCell']) (by omega) (by omega) HB8.out.size ?_; intro v9 w9 ho9 hB9 hg9; have HQ9 := Lib.hid ho9; have HO9 := Lib.hid (HO8.out.kept hg9 (own_ne2 HO8.out HQ8.out (by decide))); have HB9 := Lib.hid (hB9 _ (Nat.le_refl _) _ HB8.out); clear ho9 hg9 hB9)))
              go_roundw
              case rel =>
                refine ⟨k + 1, os ++ [(⟨1, tx, qa, qb, qt, q3⟩ : Ro)], ls ++ [tx.size], by omega, by omega, by go_num, HOL.out, HST, ?_, ?_, HB9.out⟩
                · rw [cellsOf_snoc]; exact HO9.out
                · have e9 : (ls ++ [tx.size]).map lsc = ls.map lsc ++ [.int .i64 ((tx.size : Nat) : Int)] := by rw [List.map_append, List.map_singleton]; rfl
                  rw [List.length_append, e9]; exact HQ9.out
              case measure => simp [intOf]; omega
            · replace p0 : W4.cell? ⟨wr.heap.size + 1, 0, none⟩ = some (.int .i64 2) := p0
              have HM9 : Hid (mks ls ⟨2, tx, qa, qb, qt, q3⟩ = la + lb) := Lib.hid (HMK.out _ rfl)
              go_wp2_with fail
              go_quiet (fail)
              replace HO := Lib.hid (own_drewN HO.out nq)
              replace HQ := Lib.hid (own_drewN HQ.out nq)
              replace HB := Lib.hid (below_drewN HB.out nq)
              have hmk : mks ls (⟨2, tx, qa, qb, qt, q3⟩ : Ro) = (la + lb) := HM9.out
              have hst := mkI_step HI.out (by rw [HOS.out]; omega) (⟨2, tx, qa, qb, qt, q3⟩ : Ro) HRK.out
              rw [hmk] at hst
              have HOL := Lib.hid (show (os ++ [(⟨2, tx, qa, qb, qt, q3⟩ : Ro)]).length = k + 1 by rw [List.length_append, HOS.out]; rfl)
              by_cases h6 : (la + lb) ≤ 600
              · rw [if_pos h6] at hst
                have HST := Lib.hid hst
                have h6i : ((la : Int) + (lb : Int)) ≤ (600 : Int) := by omega
                clear hst hmk h6
                go_wp2_with (first | (fail) | (at_builtin; first | (refine wpList_appN rfl (.tmp 111) (.tmp 113) _ rfl w.heap.size 66 _ 6 56 Try.underlying60 op_info rfl (by decide) (.slice Ao k co) k _ rfl HO.out (roc (⟨2, tx, qa, qb, qt, q3⟩ : Ro)) rfl _ rfl (by simp) rfl (roc_one _) (by omega) (by omega) HB.out.size ?_; intro v8 w8 ho8 hB8 hg8; have HO8 := Lib.hid ho8; have HQ8 := Lib.hid (HQ.out.kept hg8 (own_ne2 HQ.out HO.out (by decide))); have HB8 := Lib.hid (hB8 _ (Nat.le_refl _) _ HB.out); obtain ⟨A8, c8, rfl, hA81, hA82⟩ := own_slice ho8; clear ho8 hg8 hB8) | (refine wpList_appN rfl (.tmp 122) (.tmp 124) _ rfl w.heap.size 3 _ 1 8 Try.underlying22 intR_info rfl (by decide) _ ls.length _ rfl HQ8.out [.int .i64 ((la : Int) + (lb : Int))] rfl _ rfl (by simp) rfl (by simp [Value.oneCell']) (by omega) (by omega) HB8.out.size ?_; intro v9 w9 ho9 hB9 hg9; have HQ9 := Lib.hid ho9; have HO9 := Lib.hid (HO8.out.kept hg9 (own_ne2 HO8.out HQ8.out (by decide))); have HB9 := Lib.hid (hB9 _ (Nat.le_refl _) _ HB8.out); clear ho9 hg9 hB9)))
                go_roundw
                case rel =>
                  refine ⟨k + 1, os ++ [(⟨2, tx, qa, qb, qt, q3⟩ : Ro)], ls ++ [(la + lb)], by omega, by omega, by go_num, HOL.out, HST, ?_, ?_, HB9.out⟩
                  · rw [cellsOf_snoc]; exact HO9.out
                  · have e9 : (ls ++ [(la + lb)]).map lsc = ls.map lsc ++ [.int .i64 ((la : Int) + (lb : Int))] := by rw [List.map_append, List.map_singleton]; (simp [lsc])
                    rw [List.length_append, e9]; exact HQ9.out
                case measure => simp [intOf]; omega
              · rw [if_neg h6] at hst
                have HST := Lib.hid hst
                have h6i : ¬ ((la : Int) + (lb : Int)) ≤ (600 : Int) := by omega
                clear hst hmk h6
                go_wp2_with (first | (fail) | (at_builtin; refine wpList_appN rfl (.tmp 111) (.tmp 113) _ rfl w.heap.size 66 _ 6 56 Try.underlying60 op_info rfl (by decide) (.slice Ao k co) k _ rfl HO.out (roc (⟨2, tx, qa, qb, qt, q3⟩ : Ro)) rfl _ rfl (by simp) rfl (roc_one _) (by omega) (by omega) HB.out.size ?_; intro v8 w8 ho8 hB8 hg8; have HO8 := Lib.hid ho8; have HQ8 := Lib.hid (HQ.out.kept hg8 (own_ne2 HQ.out HO.out (by decide))); have HB8 := Lib.hid (hB8 _ (Nat.le_refl _) _ HB.out); obtain ⟨A8, c8, rfl, hA81, hA82⟩ := own_slice ho8; clear ho8 hg8 hB8))
                go_roundw
                case rel =>
                  refine ⟨k + 1, os ++ [(⟨2, tx, qa, qb, qt, q3⟩ : Ro)], ls, by omega, by omega, by go_num, HOL.out, HST, ?_, HQ8.out, HB8.out⟩
                  rw [cellsOf_snoc]; exact HO8.out
                case measure => simp [intOf]; omega
            · replace p0 : W4.cell? ⟨wr.heap.size + 1, 0, none⟩ = some (.int .i64 3) := p0
              have HM9 : Hid (mks ls ⟨3, tx, qa, qb, qt, q3⟩ = qt) := Lib.hid (HMK.out _ rfl)
              have hmk : mks ls (⟨3, tx, qa, qb, qt, q3⟩ : Ro) = qt := HM9.out
              have hst := mkI_step HI.out (by rw [HOS.out]; omega) (⟨3, tx, qa, qb, qt, q3⟩ : Ro) HRK.out
              rw [hmk] at hst
              have HOL := Lib.hid (show (os ++ [(⟨3, tx, qa, qb, qt, q3⟩ : Ro)]).length = k + 1 by rw [List.length_append, HOS.out]; rfl)
              have h6 : qt ≤ 600 := by omega
              rw [if_pos h6] at hst
              have HST := Lib.hid hst
              have h6i : ((qt : Nat) : Int) ≤ (600 : Int) := by omega
              clear hst hmk h6
              go_wp2_with (first | (fail) | (at_builtin; first | (refine wpList_appN rfl (.tmp 111) (.tmp 113) _ rfl w.heap.size 66 _ 6 56 Try.underlying60 op_info rfl (by decide) (.slice Ao k co) k _ rfl HO.out (roc (⟨3, tx, qa, qb, qt, q3⟩ : Ro)) rfl _ rfl (by simp) rfl (roc_one _) (by omega) (by omega) HB.out.size ?_; intro v8 w8 ho8 hB8 hg8; have HO8 := Lib.hid ho8; have HQ8 := Lib.hid (HQ.out.kept hg8 (own_ne2 HQ.out HO.out (by decide))); have HB8 := Lib.hid (hB8 _ (Nat.le_refl _) _ HB.out); obtain ⟨A8, c8, rfl, hA81, hA82⟩ := own_slice ho8; clear ho8 hg8 hB8) | (refine wpList_appN rfl (.tmp 122) (.tmp 124) _ rfl w.heap.size 3 _ 1 8 Try.underlying22 intR_info rfl (by decide) _ ls.length _ rfl HQ8.out [.int .i64 ((qt : Nat) : Int)] rfl _ rfl (by simp) rfl (by simp [Value.oneCell']) (by omega) (by omega) HB8.out.size ?_; intro v9 w9 ho9 hB9 hg9; have HQ9 := Lib.hid ho9; have HO9 := Lib.hid (HO8.out.kept hg9 (own_ne2 HO8.out HQ8.out (by decide))); have HB9 := Lib.hid (hB9 _ (Nat.le_refl _) _ HB8.out); clear ho9 hg9 hB9)))
              go_roundw
              case rel =>
                refine ⟨k + 1, os ++ [(⟨3, tx, qa, qb, qt, q3⟩ : Ro)], ls ++ [qt], by omega, by omega, by go_num, HOL.out, HST, ?_, ?_, HB9.out⟩
                · rw [cellsOf_snoc]; exact HO9.out
                · have e9 : (ls ++ [qt]).map lsc = ls.map lsc ++ [.int .i64 ((qt : Nat) : Int)] := by rw [List.map_append, List.map_singleton]; rfl
                  rw [List.length_append, e9]; exact HQ9.out
              case measure => simp [intOf]; omega
            · replace p0 : W4.cell? ⟨wr.heap.size + 1, 0, none⟩ = some (.int .i64 4) := p0
              have HM9 : Hid (mks ls ⟨4, tx, qa, qb, qt, q3⟩ = la - qt) := Lib.hid (HMK.out _ rfl)
              go_wp2_with fail
              go_quiet (fail)
              replace HO := Lib.hid (own_drewN HO.out nq)
              replace HQ := Lib.hid (own_drewN HQ.out nq)
              replace HB := Lib.hid (below_drewN HB.out nq)
              have hmk : mks ls (⟨4, tx, qa, qb, qt, q3⟩ : Ro) = (la - qt) := HM9.out
              have hst := mkI_step HI.out (by rw [HOS.out]; omega) (⟨4, tx, qa, qb, qt, q3⟩ : Ro) HRK.out
              rw [hmk] at hst
              have HOL := Lib.hid (show (os ++ [(⟨4, tx, qa, qb, qt, q3⟩ : Ro)]).length = k + 1 by rw [List.length_append, HOS.out]; rfl)
              have h6 : (la - qt) ≤ 600 := by omega
              rw [if_pos h6] at hst
              have HST := Lib.hid hst
              have h6i : ((la : Int) - (qt : Int)) ≤ (600 : Int) := by omega
              clear hst hmk h6
              go_wp2_with (first | (fail) | (at_builtin; first | (refine wpList_appN rfl (.tmp 111) (.tmp 113) _ rfl w.heap.size 66 _ 6 56 Try.underlying60 op_info rfl (by decide) (.slice Ao k co) k _ rfl HO.out (roc (⟨4, tx, qa, qb, qt, q3⟩ : Ro)) rfl _ rfl (by simp) rfl (roc_one _) (by omega) (by omega) HB.out.size ?_; intro v8 w8 ho8 hB8 hg8; have HO8 := Lib.hid ho8; have HQ8 := Lib.hid (HQ.out.kept hg8 (own_ne2 HQ.out HO.out (by decide))); have HB8 := Lib.hid (hB8 _ (Nat.le_refl _) _ HB.out); obtain ⟨A8, c8, rfl, hA81, hA82⟩ := own_slice ho8; clear ho8 hg8 hB8) | (refine wpList_appN rfl (.tmp 122) (.tmp 124) _ rfl w.heap.size 3 _ 1 8 Try.underlying22 intR_info rfl (by decide) _ ls.length _ rfl HQ8.out [.int .i64 ((la : Int) - (qt : Int))] rfl _ rfl (by simp) rfl (by simp [Value.oneCell']) (by omega) (by omega) HB8.out.size ?_; intro v9 w9 ho9 hB9 hg9; have HQ9 := Lib.hid ho9; have HO9 := Lib.hid (HO8.out.kept hg9 (own_ne2 HO8.out HQ8.out (by decide))); have HB9 := Lib.hid (hB9 _ (Nat.le_refl _) _ HB8.out); clear ho9 hg9 hB9)))
              go_roundw
              case rel =>
                refine ⟨k + 1, os ++ [(⟨4, tx, qa, qb, qt, q3⟩ : Ro)], ls ++ [(la - qt)], by omega, by omega, by go_num, HOL.out, HST, ?_, ?_, HB9.out⟩
                · rw [cellsOf_snoc]; exact HO9.out
                · have e9 : (ls ++ [(la - qt)]).map lsc = ls.map lsc ++ [.int .i64 ((la : Int) - (qt : Int))] := by rw [List.map_append, List.map_singleton]; (unfold lsc; rw [show ((la - qt : Nat) : Int) = (la : Int) - (qt : Int) by omega])
                  rw [List.length_append, e9]; exact HQ9.out
              case measure => simp [intOf]; omega
            · replace p0 : W4.cell? ⟨wr.heap.size + 1, 0, none⟩ = some (.int .i64 5) := p0
              obtain ⟨m, hm⟩ : ∃ m, q3 * la = m := ⟨_, rfl⟩
              have HM9 : Hid (mks ls ⟨5, tx, qa, qb, qt, q3⟩ = m) := Lib.hid ((HMK.out _ rfl).trans hm)
              have hm6 : m ≤ 1200 := by rw [← hm]; exact Nat.mul_le_mul hq33 hsma
              have hadd : IntKind.i64.wrap ((q3 : Int) * (la : Int)) = (m : Int) := by rw [← Int.natCast_mul, hm]; exact IntWalk.i64_in _ (by omega)
              clear hm
              go_wp2_with fail
              go_quiet (fail)
              clear hadd
              replace HO := Lib.hid (own_drewN HO.out nq)
              replace HQ := Lib.hid (own_drewN HQ.out nq)
              replace HB := Lib.hid (below_drewN HB.out nq)
              have hmk : mks ls (⟨5, tx, qa, qb, qt, q3⟩ : Ro) = m := HM9.out
              have hst := mkI_step HI.out (by rw [HOS.out]; omega) (⟨5, tx, qa, qb, qt, q3⟩ : Ro) HRK.out
              rw [hmk] at hst
              have HOL := Lib.hid (show (os ++ [(⟨5, tx, qa, qb, qt, q3⟩ : Ro)]).length = k + 1 by rw [List.length_append, HOS.out]; rfl)
              by_cases h6 : m ≤ 600
              · rw [if_pos h6] at hst
                have HST := Lib.hid hst
                have h6i : ((m : Nat) : Int) ≤ (600 : Int) := by omega
                clear hst hmk h6
                go_wp2_with (first | (fail) | (at_builtin; first | (refine wpList_appN rfl (.tmp 111) (.tmp 113) _ rfl w.heap.size 66 _ 6 56 Try.underlying60 op_info rfl (by decide) (.slice Ao k co) k _ rfl HO.out (roc (⟨5, tx, qa, qb, qt, q3⟩ : Ro)) rfl _ rfl (by simp) rfl (roc_one _) (by omega) (by omega) HB.out.size ?_; intro v8 w8 ho8 hB8 hg8; have HO8 := Lib.hid ho8; have HQ8 := Lib.hid (HQ.out.kept hg8 (own_ne2 HQ.out HO.out (by decide))); have HB8 := Lib.hid (hB8 _ (Nat.le_refl _) _ HB.out); obtain ⟨A8, c8, rfl, hA81, hA82⟩ := own_slice ho8; clear ho8 hg8 hB8) | (refine wpList_appN rfl (.tmp 122) (.tmp 124) _ rfl w.heap.size 3 _ 1 8 Try.underlying22 intR_info rfl (by decide) _ ls.length _ rfl HQ8.out [.int .i64 ((m : Nat) : Int)] rfl _ rfl (by simp) rfl (by simp [Value.oneCell']) (by omega) (by omega) HB8.out.size ?_; intro v9 w9 ho9 hB9 hg9; have HQ9 := Lib.hid ho9; have HO9 := Lib.hid (HO8.out.kept hg9 (own_ne2 HO8.out HQ8.out (by decide))); have HB9 := Lib.hid (hB9 _ (Nat.le_refl _) _ HB8.out); clear ho9 hg9 hB9)))
                go_roundw
                case rel =>
                  refine ⟨k + 1, os ++ [(⟨5, tx, qa, qb, qt, q3⟩ : Ro)], ls ++ [m], by omega, by omega, by go_num, HOL.out, HST, ?_, ?_, HB9.out⟩
                  · rw [cellsOf_snoc]; exact HO9.out
                  · have e9 : (ls ++ [m]).map lsc = ls.map lsc ++ [.int .i64 ((m : Nat) : Int)] := by rw [List.map_append, List.map_singleton]; rfl
                    rw [List.length_append, e9]; exact HQ9.out
                case measure => simp [intOf]; omega
              · rw [if_neg h6] at hst
                have HST := Lib.hid hst
                have h6i : ¬ ((m : Nat) : Int) ≤ (600 : Int) := by omega
                clear hst hmk h6
                go_wp2_with (first | (fail) | (at_builtin; refine wpList_appN rfl (.tmp 111) (.tmp 113) _ rfl w.heap.size 66 _ 6 56 Try.underlying60 op_info rfl (by decide) (.slice Ao k co) k _ rfl HO.out (roc (⟨5, tx, qa, qb, qt, q3⟩ : Ro)) rfl _ rfl (by simp) rfl (roc_one _) (by omega) (by omega) HB.out.size ?_; intro v8 w8 ho8 hB8 hg8; have HO8 := Lib.hid ho8; have HQ8 := Lib.hid (HQ.out.kept hg8 (own_ne2 HQ.out HO.out (by decide))); have HB8 := Lib.hid (hB8 _ (Nat.le_refl _) _ HB.out); obtain ⟨A8, c8, rfl, hA81, hA82⟩ := own_slice ho8; clear ho8 hg8 hB8))
                go_roundw
                case rel =>
                  refine ⟨k + 1, os ++ [(⟨5, tx, qa, qb, qt, q3⟩ : Ro)], ls, by omega, by omega, by go_num, HOL.out, HST, ?_, HQ8.out, HB8.out⟩
                  rw [cellsOf_snoc]; exact HO8.out
                case measure => simp [intOf]; omega
          · have hq0i : ¬ (0 : Int) < (q6 : Int) := by omega
            have hzi : (0 : Int) < (ls.length : Int) := by omega
            have HM9 : Hid (mks ls ⟨1, tx, 0, 0, 0, 0⟩ = tx.size) := Lib.hid rfl
            have hll0 : Hid (ls.length < 60) := Lib.hid (by omega)
            clear HPA HPB HPT ho hs hG1 hG2
            have hmk : mks ls (⟨1, tx, 0, 0, 0, 0⟩ : Ro) = tx.size := HM9.out
            have hst := mkI_step HI.out (by rw [HOS.out]; omega) (⟨1, tx, 0, 0, 0, 0⟩ : Ro) (rok_text ls tx htx hll0.out)
            rw [hmk] at hst
            have HOL := Lib.hid (show (os ++ [(⟨1, tx, 0, 0, 0, 0⟩ : Ro)]).length = k + 1 by rw [List.length_append, HOS.out]; rfl)
            have h6 : tx.size ≤ 600 := by omega
            rw [if_pos h6] at hst
            have HST := Lib.hid hst
            have h6i : ((tx.size : Nat) : Int) ≤ (600 : Int) := by omega
            clear hst hmk h6
            go_wp2_with (first | (first | (go_at_call 20; refine (HTX.out _).mono ?_; rintro e w1 ⟨rfl, rfl⟩) | (go_at_call 15; refine (K6.out _).mono ?_; rintro e w1 ⟨rfl, rfl⟩)) | (at_builtin; first | (refine wpList_appN rfl (.tmp 111) (.tmp 113) _ rfl w.heap.size 66 _ 6 56 Try.underlying60 op_info rfl (by decide) (.slice Ao k co) k _ rfl HO.out (roc (⟨1, tx, 0, 0, 0, 0⟩ : Ro)) rfl _ rfl (by simp) rfl (roc_one _) (by omega) (by omega) HB.out.size ?_; intro v8 w8 ho8 hB8 hg8; have HO8 := Lib.hid ho8; have HQ8 := Lib.hid (HQ.out.kept hg8 (own_ne2 HQ.out HO.out (by decide))); have HB8 := Lib.hid (hB8 _ (Nat.le_refl _) _ HB.out); obtain ⟨A8, c8, rfl, hA81, hA82⟩ := own_slice ho8; clear ho8 hg8 hB8) | (refine wpList_appN rfl (.tmp 122) (.tmp 124) _ rfl w.heap.size 3 _ 1 8 Try.underlying22 intR_info rfl (by decide) _ ls.length _ rfl HQ8.out [.int .i64 ((tx.size : Nat) : Int)] rfl _ rfl (by simp) rfl (by simp [Value.oneCell']) (by omega) (by omega) HB8.out.size ?_; intro v9 w9 ho9 hB9 hg9; have HQ9 := Lib.hid ho9; have HO9 := Lib.hid (HO8.out.kept hg9 (own_ne2 HO8.out HQ8.out (by decide))); have HB9 := Lib.hid (hB9 _ (Nat.le_refl _) _ HB8.out); clear ho9 hg9 hB9)))
            go_roundw
            case rel =>
              refine ⟨k + 1, os ++ [(⟨1, tx, 0, 0, 0, 0⟩ : Ro)], ls ++ [tx.size], by omega, by omega, by go_num, HOL.out, HST, ?_, ?_, HB9.out⟩
              · rw [cellsOf_snoc]; exact HO9.out
              · have e9 : (ls ++ [tx.size]).map lsc = ls.map lsc ++ [.int .i64 ((tx.size : Nat) : Int)] := by rw [List.map_append, List.map_singleton]; rfl
                rw [List.length_append, e9]; exact HQ9.out
            case measure => simp [intOf]; omega
        · have HM9 : Hid (mks ls ⟨1, tx, 0, 0, 0, 0⟩ = tx.size) := Lib.hid rfl
          have hll0 : Hid (ls.length < 60) := Lib.hid (by omega)
          clear HPA HPB HPT ho hs hG1 hG2
          have hmk : mks ls (⟨1, tx, 0, 0, 0, 0⟩ : Ro) = tx.size := HM9.out
          have hst := mkI_step HI.out (by rw [HOS.out]; omega) (⟨1, tx, 0, 0, 0, 0⟩ : Ro) (rok_text ls tx htx hll0.out)
          rw [hmk] at hst
          have HOL := Lib.hid (show (os ++ [(⟨1, tx, 0, 0, 0, 0⟩ : Ro)]).length = k + 1 by rw [List.length_append, HOS.out]; rfl)
          have h6 : tx.size ≤ 600 := by omega
          rw [if_pos h6] at hst
          have HST := Lib.hid hst
          have h6i : ((tx.size : Nat) : Int) ≤ (600 : Int) := by omega
          clear hst hmk h6
          go_wp2_with (first | ((go_at_call 20; refine (HTX.out _).mono ?_; rintro e w1 ⟨rfl, rfl⟩)) | (at_builtin; first | (refine wpList_appN rfl (.tmp 111) (.tmp 113) _ rfl w.heap.size 66 _ 6 56 Try.underlying60 op_info rfl (by decide) (.slice Ao k co) k _ rfl HO.out (roc (⟨1, tx, 0, 0, 0, 0⟩ : Ro)) rfl _ rfl (by simp) rfl (roc_one _) (by omega) (by omega) HB.out.size ?_; intro v8 w8 ho8 hB8 hg8; have HO8 := Lib.hid ho8; have HQ8 := Lib.hid (HQ.out.kept hg8 (own_ne2 HQ.out HO.out (by decide))); have HB8 := Lib.hid (hB8 _ (Nat.le_refl _) _ HB.out); obtain ⟨A8, c8, rfl, hA81, hA82⟩ := own_slice ho8; clear ho8 hg8 hB8) | (refine wpList_appN rfl (.tmp 122) (.tmp 124) _ rfl w.heap.size 3 _ 1 8 Try.underlying22 intR_info rfl (by decide) _ ls.length _ rfl HQ8.out [.int .i64 ((tx.size : Nat) : Int)] rfl _ rfl (by simp) rfl (by simp [Value.oneCell']) (by omega) (by omega) HB8.out.size ?_; intro v9 w9 ho9 hB9 hg9; have HQ9 := Lib.hid ho9; have HO9 := Lib.hid (HO8.out.kept hg9 (own_ne2 HO8.out HQ8.out (by decide))); have HB9 := Lib.hid (hB9 _ (Nat.le_refl _) _ HB8.out); clear ho9 hg9 hB9)))
          go_roundw
          case rel =>
            refine ⟨k + 1, os ++ [(⟨1, tx, 0, 0, 0, 0⟩ : Ro)], ls ++ [tx.size], by omega, by omega, by go_num, HOL.out, HST, ?_, ?_, HB9.out⟩
            · rw [cellsOf_snoc]; exact HO9.out
            · have e9 : (ls ++ [tx.size]).map lsc = ls.map lsc ++ [.int .i64 ((tx.size : Nat) : Int)] := by rw [List.map_append, List.map_singleton]; rfl
              rw [List.length_append, e9]; exact HQ9.out
          case measure => simp [intOf]; omega
      · obtain rfl : k = 40 := by omega
        have hi := HI.out.vld
        have HOS := Lib.hid hos
        have HO := Lib.hid ho
        have HB := Lib.hid hb
        clear hos ho hb hs HR
        go_wp2_with fail
        go_ret
        exact ⟨_, os, rfl, by rw [HOS.out]; exact HO.out, HI.out.vld, by rw [HOS.out]; exact Nat.le_refl _, HB.out⟩
    · have HOS := Lib.hid hos
      have HO := Lib.hid ho
      have HB := Lib.hid hb
      clear hos ho hb hs HR
      go_wp2_with fail
      go_ret
      exact ⟨_, os, rfl, by rw [HOS.out]; exact HO.out, HI.out.vld, by rw [HOS.out]; omega, HB.out⟩
end Go.Proofs.Ytddbhoilhapljaa
