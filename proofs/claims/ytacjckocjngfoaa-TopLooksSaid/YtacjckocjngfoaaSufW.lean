/-
  The walk of suffix.sorted.
-/
import Derived.Test.YtacjckocjngfoaaSufR
import Derived.Test.YtacjckocjngfoaaPick
import Derived.Test.YtacjckocjngfoaaOrd
import Derived.Deep.DeepCutAuto
import Derived.Laws.EntriesVeiled
namespace Go.Proofs.Ytacjckocjngfoaa
open Go.RowKit Go.Shelf Go.Sort
set_option linter.unusedVariables false
set_option linter.unusedSimpArgs false

def SortedPost (S : List UInt8) (n : Nat) (w : World) (e : Ending) (w' : World) : Prop := ∃ (g : Nat) (o p : Nat → Nat), e = .returned (.slice (some ⟨g, 0, none⟩) n n) ∧ w.heap.size ≤ g ∧ EndsUp S n o p ∧ w'.rowIs g 3 n (fun k => .int .i64 (o k : Int)) ∧ Below w.heap.size w w'
/-- What the rounds find: the order, the boxes and the ranks. -/
def SRd (S : List UInt8) (n B g gn gr : Nat) (s7 : Value) (wr : World) : Prop := ∃ (gw rb w : Nat) (r o p : Nat → Nat), s7 = .pointer (some ⟨gw, 0, none⟩) ∧ Bij n o p ∧ RankOk S w r ∧ 0 < w ∧ w ≤ n ∧
  wr.rowIs g 3 n (fun k => .int .i64 (o k : Int)) ∧ wr.rowIs rb 3 n (fun k => .int .i64 (r k : Int)) ∧ Blk wr gw 3 #[.int .i64 (w : Int)] ∧ Blk wr gn 3 #[.int .i64 (n : Int)] ∧ Blk wr gr 22 #[.slice (some ⟨rb, 0, none⟩) n n] ∧
  gw ≠ g ∧ rb ≠ g ∧ gw ≠ gn ∧ gw ≠ gr ∧ rb ≠ gr ∧ B ≤ gw
/-- What a round holds while it lays the next ranks. -/
def SIn (S : List UInt8) (n g gn gr gs gw rk v nx : Nat) (r o f : Nat → Nat) (W : World) : Prop :=
  W.rowIs g 3 n (fun k => .int .i64 (o k : Int)) ∧ W.rowIs rk 3 n (fun k => .int .i64 (r k : Int)) ∧ W.rowIs nx 3 n (fun k => .int .i64 (f k : Int)) ∧
  Blk W gw 3 #[.int .i64 (v : Int)] ∧ Blk W gn 3 #[.int .i64 (n : Int)] ∧ Blk W gr 22 #[.slice (some ⟨rk, 0, none⟩) n n] ∧
  Blk W gs 64 #[.func (.func 32) #[] #[.pointer (some ⟨gw, 0, none⟩), .pointer (some ⟨gn, 0, none⟩), .pointer (some ⟨gr, 0, none⟩)]]
theorem bk0 (w : World) (cs : Array Value) (t : TypeId) (a b c : Obj) : Blk ((((w.alloc (.cells cs t)).alloc a).alloc b).alloc c).drew w.heap.size t cs := (((Blk.new w t cs).alloc a).alloc b).alloc c
theorem bk1 (w : World) (cs : Array Value) (t : TypeId) (a b c : Obj) : Blk ((((w.alloc a).alloc (.cells cs t)).alloc b).alloc c).drew (w.heap.size + 1) t cs := by
  have h := ((Blk.new (w.alloc a) t cs).alloc b).alloc c
  simpa using h.drew
theorem bk2 (w : World) (cs : Array Value) (t : TypeId) (a b c : Obj) : Blk ((((w.alloc a).alloc b).alloc (.cells cs t)).alloc c).drew (w.heap.size + 1 + 1) t cs := by
  have h := (Blk.new ((w.alloc a).alloc b) t cs).alloc c
  simpa using h.drew
theorem bk3 (w : World) (cs : Array Value) (t : TypeId) (a b c : Obj) : Blk ((((w.alloc a).alloc b).alloc c).alloc (.cells cs t)).drew (w.heap.size + 1 + 1 + 1) t cs := by
  have h := Blk.new (((w.alloc a).alloc b).alloc c) t cs
  simpa using h.drew
theorem rm1 (w : World) (n : Nat) (z : Value) (t : TypeId) (a b c : Obj) : ((((w.alloc a).alloc (.cells (madeCells #[z] n) t)).alloc b).alloc c).drew.rowIs (w.heap.size + 1) t n (fun _ => z) := by
  have h := ((World.rowIs_made (w.alloc a) z n t).alloc b).alloc c
  simpa using h.drew
theorem rm2 (w : World) (n : Nat) (z : Value) (t : TypeId) (a b c : Obj) : ((((w.alloc a).alloc b).alloc (.cells (madeCells #[z] n) t)).alloc c).drew.rowIs (w.heap.size + 1 + 1) t n (fun _ => z) := by
  have h := (World.rowIs_made ((w.alloc a).alloc b) z n t).alloc c
  simpa using h.drew
theorem rm3 (w : World) (n : Nat) (z : Value) (t : TypeId) (a b c : Obj) : ((((w.alloc a).alloc b).alloc c).alloc (.cells (madeCells #[z] n) t)).drew.rowIs (w.heap.size + 1 + 1 + 1) t n (fun _ => z) := by
  have h := World.rowIs_made (((w.alloc a).alloc b).alloc c) z n t
  simpa using h.drew
theorem be4 (w : World) (a b c d : Obj) : Below w.heap.size w ((((w.alloc a).alloc b).alloc c).alloc d).drew := by
  have e1 : w.heap.size ≤ (w.alloc a).heap.size := by simp
  have e2 : w.heap.size ≤ ((w.alloc a).alloc b).heap.size := by simp; omega
  have e3 : w.heap.size ≤ (((w.alloc a).alloc b).alloc c).heap.size := by simp; omega
  exact (((((Below.refl _ _).alloc (Nat.le_refl _) a).alloc e1 b).alloc e2 c).alloc e3 d).drew
def wdOf (v : Value) (w : World) : Nat := match v with
  | .pointer (some a) => (match w.cell? a with | some u => (intOf u).toNat | none => 0)
  | _ => 0
set_option maxRecDepth 100000 in
set_option maxHeartbeats 8000000 in
theorem sorted_any (s : ByteArray) (hs0 : 0 < s.size) (hs : s.size ≤ 1000) (w : World) :
    Calls Try.prog 21 #[.string s] w (SortedPost s.data.toList s.size w) := by
  have hmk : ∀ W : World, (Instr.makeSlice 22 (.int .i64 (s.size : Int)) (.int .i64 (s.size : Int))).run Try.prog W = .ok (.slice (some ⟨W.heap.size, 0, none⟩) s.size s.size) (W.alloc (.cells (madeCells #[.int .i64 0] s.size) 3)) :=
    fun W => run_make_row' (P := Try.prog) 22 3 (.int .i64 0) 8 Try.underlying22 int_info rfl .i64 .i64 s.size (by omega) (by omega) W
  go_enter Try.func21, Try.ntmps21
  go_wp2_with fail
  go_cut [4, 5] (fun s4 s5 wc => ∃ g gr rb : Nat, s4 = .slice (some ⟨g, 0, none⟩) s.size s.size ∧ s5 = .pointer (some ⟨gr, 0, none⟩) ∧ Blk wc gr 22 #[.slice (some ⟨rb, 0, none⟩) s.size s.size] ∧ wc.rowIs g 3 s.size (fun _ => .int .i64 0) ∧ wc.rowIs rb 3 s.size (fun _ => .int .i64 0) ∧ Blk wc w.heap.size 3 #[.int .i64 (s.size : Int)] ∧ w.heap.size < g ∧ w.heap.size < gr ∧ w.heap.size < rb ∧ g ≠ gr ∧ g ≠ rb ∧ rb ≠ gr ∧ Below w.heap.size w wc)
  case first =>
    go_region
    all_goals go_wp2_with fail
    all_goals clear hmk
    all_goals go_meet
    all_goals first
      | refine ⟨_, _, _, rfl, rfl, bk1 _ _ _ _ _ _, ?_, ?_, bk0 _ _ _ _ _ _, by omega, by omega, by omega, by omega, by omega, by omega, be4 _ _ _ _ _⟩
      | refine ⟨_, _, _, rfl, rfl, bk2 _ _ _ _ _ _, ?_, ?_, bk0 _ _ _ _ _ _, by omega, by omega, by omega, by omega, by omega, by omega, be4 _ _ _ _ _⟩
      | refine ⟨_, _, _, rfl, rfl, bk3 _ _ _ _ _ _, ?_, ?_, bk0 _ _ _ _ _ _, by omega, by omega, by omega, by omega, by omega, by omega, be4 _ _ _ _ _⟩
    all_goals first
      | exact rm1 _ _ _ _ _ _ _
      | exact rm2 _ _ _ _ _ _ _
      | exact rm3 _ _ _ _ _ _ _
  case rest =>
    obtain ⟨g, gr, rb, rfl, rfl, BR, RG, RB, BN, l1, l2, l3, d1, d2, d3, HB⟩ := hcut
    clear hmk
    have c0 : wc.cell? ⟨w.heap.size, 0, none⟩ = some (.int .i64 (s.size : Int)) := BN.cell 0
    go_wp2_with fail
    clear c0
    go_loopw [6, 19] (fun _ vi wr => ∃ k : Nat, k ≤ s.size ∧ vi = .int .i64 k ∧ wr.rowIs g 3 s.size (fun j => .int .i64 ((if j < k then j else 0 : Nat) : Int)) ∧ wr.rowIs rb 3 s.size (fun j => .int .i64 ((if j < k then (s.data.toList.getD j 0).toNat else 0 : Nat) : Int)) ∧ Blk wr w.heap.size 3 #[.int .i64 (s.size : Int)] ∧ Blk wr gr 22 #[.slice (some ⟨rb, 0, none⟩) s.size s.size] ∧ Below w.heap.size w wr) (fun _ vi _ => s.size - (intOf vi).toNat)
    case atStart => exact ⟨0, Nat.zero_le _, rfl, RG.congr (fun j hj => by simp), RB.congr (fun j hj => by simp), BN, BR, HB⟩
    case round =>
      clear RG RB BN BR HB
      obtain ⟨k, hk, rfl, RG, RB, BN, BR, HB⟩ := hrel
      by_cases hlt : k < s.size
      · have r0 : wr.cell? ⟨gr, 0, none⟩ = some (.slice (some ⟨rb, 0, none⟩) s.size s.size) := BR.cell 0
        have ex : s.data.toList.getD k 0 = s[k] := by rw [List.getD_eq_getElem?_getD, List.getElem?_eq_getElem (by simpa using hlt)]; rfl
        have hbb := byte_lt s[k]
        have i0 : (0 : Int) ≤ (k : Int) := by omega
        have i1 : (k : Int) < (s.size : Int) := by omega
        have x0 := RG.cell hlt
        have x1 := RB.cell hlt
        have x2 := RG.frozen k
        have x3 := RB.frozen k
        have EX := Lib.hid ex
        clear ex
        go_wp2_with fail
        go_region
        go_wp2_with fail
        have d2' := fun e => d2 (Eq.symm e)
        have n1 : w.heap.size ≠ g := by omega
        have n2 : w.heap.size ≠ rb := by omega
        have n3 : gr ≠ g := by omega
        have n4 : gr ≠ rb := by omega
        have m1 : w.heap.size ≤ g := by omega
        have m2 : w.heap.size ≤ rb := by omega
        go_roundw
        case rel => exact ⟨k + 1, by omega, by go_num, (((RG.set k _).setOther (a := ⟨rb, k, none⟩) d2 _).drew.congr (fun j hj => (by
            by_cases e : j = k
            · subst e; simp
            · rw [if_neg e]; congr 2; simp only [show (j < k + 1) ↔ j < k by omega]))), ((((RB.setOther (a := ⟨g, k, none⟩) d2' _).set k _)).drew.congr (fun j hj => (by
            by_cases e : j = k
            · subst e; rw [if_pos rfl, if_pos (by omega), EX.out]
            · rw [if_neg e]; congr 2; simp only [show (j < k + 1) ↔ j < k by omega]))), ((BN.far (p := ⟨g, k, none⟩) n1 _).far (p := ⟨rb, k, none⟩) n2 _).drew, ((BR.far (p := ⟨g, k, none⟩) n3 _).far (p := ⟨rb, k, none⟩) n4 _).drew, ((HB.setCell (p := ⟨g, k, none⟩) m1 _).setCell (p := ⟨rb, k, none⟩) m2 _).drew⟩
        case measure => simp [intOf]; omega
      · obtain rfl : k = s.size := by omega
        go_wp2_with fail
        obtain ⟨wx, hwx⟩ : ∃ wx, wr.alloc (.cells #[.int .i64 1] 3) = wx := ⟨_, rfl⟩
        have RG' := RG.alloc (.cells #[.int .i64 1] 3)
        have RB' := RB.alloc (.cells #[.int .i64 1] 3)
        have BN' := BN.alloc (.cells #[.int .i64 1] 3)
        have BR' := BR.alloc (.cells #[.int .i64 1] 3)
        have HB' := HB.alloc HB.size (.cells #[.int .i64 1] 3)
        have BW' := Blk.new wr 3 #[.int .i64 1]
        have q1 := RG.lt
        have q2 := RB.lt
        have q3 := BN.lt
        have q4 := BR.lt
        have q5 := HB.size
        rw [hwx] at *
        have HW := Lib.hid hwx
        clear hwx
        have HR0 : Hid (SRd s.data.toList s.size w.heap.size g w.heap.size gr (.pointer (some ⟨wr.heap.size, 0, none⟩)) wx) := Lib.hid ⟨wr.heap.size, rb, 1, fun i => (s.data.toList.getD i 0).toNat, fun k => k, fun k => k, rfl, bij_id _, rank_one _, by omega, hs0, RG'.congr (fun j hj => by rw [if_pos hj]), RB'.congr (fun j hj => by rw [if_pos hj]), BW', BN', BR', by omega, by omega, by omega, by omega, by omega, by omega⟩
        clear RG RB BN BR HB RG' RB' BN' BR' BW' HW
        go_loopw [7, 8, 9, 10, 11] (fun s7 _ _ _ _ wr => SRd s.data.toList s.size w.heap.size g w.heap.size gr s7 wr ∧ Below w.heap.size w wr) (fun s7 _ _ _ _ wr => s.size - wdOf s7 wr)
        case atStart => exact ⟨HR0.out, HB'⟩
        case round =>
          clear HR0 HB' q1 q2 q3 q4 q5
          have n3 : gr ≠ g := by omega
          clear d1 d2 d3 l3
          obtain ⟨⟨gw, rk, v, r, o, p, rfl, HO, hr, hv0, hvn, RG, RB, BW, BN, BR, d1, d2, d3, d4, d5, lgw⟩, HB⟩ := hrel
          have n1 : w.heap.size ≠ g := by omega
          have n5 : w.heap.size ≠ gr := by omega
          have z1 := RG.lt
          have z2 := RB.lt
          have z3 := BN.lt
          have z4 := BR.lt
          have z5 := HB.size
          have z6 := BW.lt
          have HWD : Hid (wdOf (.pointer (some ⟨gw, 0, none⟩)) wr = v) := Lib.hid (by have q := BW.cell 0; unfold wdOf; simp only [q]; simp [intOf])
          have HSR := Lib.hid hr
          have HOO := Lib.hid HO
          clear hr HO
          have SC := Lib.hid (sufSort_row s.data.toList s.size v (by simp) r o p HSR.out HOO.out hv0 (by omega) hs hs0 g gw w.heap.size gr rk wr.heap.size (wr.alloc (.cells #[.func (.func 32) #[] #[.pointer (some ⟨gw, 0, none⟩), .pointer (some ⟨w.heap.size, 0, none⟩), .pointer (some ⟨gr, 0, none⟩)]] 64)) (RG.alloc _) ⟨(BW.alloc _).cell 0, (BN.alloc _).cell 0, (BR.alloc _).cell 0, fun i hi => (RB.alloc _).cell hi⟩ ((Blk.new _ _ _).cell 0) d1 n1 n3 d2 (by omega))
          go_wp2_with fail
          refine SC.out.mono ?_
          rintro e w2 ⟨rfl, o', p', ho', hu', RG2, hg2⟩
          clear SC
          have hmk : ∀ W : World, (Instr.makeSlice 22 (.int .i64 (s.size : Int)) (.int .i64 (s.size : Int))).run Try.prog W = .ok (.slice (some ⟨W.heap.size, 0, none⟩) s.size s.size) (W.alloc (.cells (madeCells #[.int .i64 0] s.size) 3)) :=
            fun W => run_make_row' (P := Try.prog) 22 3 (.int .i64 0) 8 Try.underlying22 int_info rfl .i64 .i64 s.size (by omega) (by omega) W
          obtain ⟨F, hF⟩ : ∃ F : Obj, Obj.cells #[.func (.func 32) #[] #[.pointer (some ⟨gw, 0, none⟩), .pointer (some ⟨w.heap.size, 0, none⟩), .pointer (some ⟨gr, 0, none⟩)]] 64 (0, 0) = F := ⟨_, rfl⟩
          have BSa := Blk.new wr 64 #[.func (.func 32) #[] #[.pointer (some ⟨gw, 0, none⟩), .pointer (some ⟨w.heap.size, 0, none⟩), .pointer (some ⟨gr, 0, none⟩)]]
          rw [hF] at hg2 BSa
          clear hF
          have y0 : (wr.alloc F).heap.size = wr.heap.size + 1 := by simp
          have y1 := hg2.size
          have y2 : wr.heap.size < w2.heap.size := by omega
          have BN2 := (BN.alloc F).grown hg2 (by simpa using n1)
          have BW2 := (BW.alloc F).grown hg2 (by simpa using d1)
          have BR2 := (BR.alloc F).grown hg2 (by simpa using n3)
          have BS2 := BSa.grown hg2 (by simp; omega)
          have RB2 := (RB.alloc F).of_block (hg2.block rk (by omega) (by simpa using d2))
          have HB2 := (HB.alloc z5 F).grown hg2 (by omega) (fun q hq => by injection hq with hq; omega)
          have c0 : w2.cell? ⟨w.heap.size, 0, none⟩ = some (.int .i64 (s.size : Int)) := BN2.cell 0
          clear hg2 RG RB BW BN BR HB BSa
          go_wp2_with fail
          clear hmk c0
          have RG3 := RG2.alloc (.cells (madeCells #[.int .i64 0] s.size) 3)
          have RB3 := RB2.alloc (.cells (madeCells #[.int .i64 0] s.size) 3)
          have BN3 := BN2.alloc (.cells (madeCells #[.int .i64 0] s.size) 3)
          have BW3 := BW2.alloc (.cells (madeCells #[.int .i64 0] s.size) 3)
          have BR3 := BR2.alloc (.cells (madeCells #[.int .i64 0] s.size) 3)
          have BS3 := BS2.alloc (.cells (madeCells #[.int .i64 0] s.size) 3)
          have NX3 := World.rowIs_made w2 (.int .i64 0) s.size 3
          have HB3 := HB2.alloc HB2.size (.cells (madeCells #[.int .i64 0] s.size) 3)
          clear RG2 RB2 BN2 BW2 BR2 BS2
          have x1 := HB2.size
          clear HB2
          generalize w2.alloc (.cells (madeCells #[.int .i64 0] s.size) 3) = w3 at *
          generalize wr.heap.size = gs at *
          generalize w2.heap.size = nx at *
          have HS : Hid (SIn s.data.toList s.size g w.heap.size gr gs gw rk v nx r o' (nxt (fun k => suf s.data.toList (o' k) (v + v)) p' 1) w3) := Lib.hid ⟨RG3, RB3, NX3.congr (fun j hj => by rw [nxt_one]; rfl), BW3, BN3, BR3, BS3⟩
          have HP := Lib.hid ho'
          have HU := Lib.hid hu'
          clear RG3 RB3 BN3 BW3 BR3 BS3 NX3 ho' hu' F y0 y1 
          go_loopw [11] (fun vi W => ∃ k : Nat, 1 ≤ k ∧ k ≤ s.size ∧ vi = .int .i64 (k : Int) ∧ SIn s.data.toList s.size g w.heap.size gr gs gw rk v nx r o' (nxt (fun k => suf s.data.toList (o' k) (v + v)) p' k) W ∧ Below w.heap.size w W) (fun vi _ => s.size - (intOf vi).toNat)
          case atStart => exact ⟨1, Nat.le_refl _, hs0, rfl, HS.out, HB3⟩
          case round =>
            clear HS HB3
            obtain ⟨k, hk1, hk, rfl, ⟨RG, RB, NX, BW, BN, BR, BS⟩, HB⟩ := hrel
            have c0 : wr.cell? ⟨w.heap.size, 0, none⟩ = some (.int .i64 (s.size : Int)) := BN.cell 0
            by_cases hlt : k < s.size
            · have j0 : (0 : Int) ≤ (k : Int) := by omega
              have j1 : (k : Int) < (s.size : Int) := by omega
              have j2 : (0 : Int) ≤ (k : Int) - 1 := by omega
              have j3 : (k : Int) - 1 < (s.size : Int) := by omega
              have e1 : ((k : Int) - 1).toNat = k - 1 := by omega
              have r1 := RG.cell hlt
              have r2 := RG.cell (show k - 1 < s.size by omega)
              have HP1 := (HP.out k hlt).1
              have HP2 := (HP.out (k - 1) (by omega)).1
              have r3 := NX.cell HP2
              have r4 := NX.cell HP1
              have f1 := NX.frozen (o' k)
              have q3 := nxt_at (x := fun k => suf s.data.toList (o' k) (v + v)) HP.out (k - 1) k (by omega) (by omega)
              rw [q3] at r3
              obtain ⟨D, hD⟩ : ∃ D, dn (fun k => suf s.data.toList (o' k) (v + v)) (k - 1) = D := ⟨_, rfl⟩
              obtain ⟨ok, hok⟩ : ∃ ok, o' k = ok := ⟨_, rfl⟩
              obtain ⟨ol, hol⟩ : ∃ ol, o' (k - 1) = ol := ⟨_, rfl⟩
              have HSI := Lib.hid (show SIn s.data.toList s.size g w.heap.size gr gs gw rk v nx r o' (nxt (fun k => suf s.data.toList (o' k) (v + v)) p' k) wr from ⟨RG, RB, NX, BW, BN, BR, BS⟩)
              rw [hD] at r3
              rw [hok] at r1 r4 f1 HP1
              rw [hol] at r2 r3 HP2
              have HD := Lib.hid hD
              have HOK := Lib.hid hok
              have HOL := Lib.hid hol
              obtain ⟨vv, hvv⟩ : ∃ vv : Nat, nxt (fun k => suf s.data.toList (o' k) (v + v)) p' k ok = vv := ⟨_, rfl⟩
              rw [hvv] at r4
              clear hvv
              clear RG RB NX BW BN BR BS hD hok hol q3
              have i0 : (0 : Int) ≤ (ok : Int) := by omega
              have i1 : (ok : Int) < (s.size : Int) := by omega
              have i2 : (0 : Int) ≤ (ol : Int) := by omega
              have i3 : (ol : Int) < (s.size : Int) := by omega
              go_wp2_with fail
              go_region
              go_wp2_with fail
              obtain ⟨Wb, hWb⟩ : ∃ Wb, (wr.setCell ⟨nx, ok, none⟩ (.int .i64 (D : Int))).drew = Wb := ⟨_, rfl⟩
              have HS2 : Hid (SIn s.data.toList s.size g w.heap.size gr gs gw rk v nx r o' (fun j => if j = ok then D else nxt (fun k => suf s.data.toList (o' k) (v + v)) p' k j) Wb) := by
                obtain ⟨RG, RB, NX, BW, BN, BR, BS⟩ := HSI.out
                subst hWb
                exact Lib.hid ⟨(RG.setOther (a := ⟨nx, ok, none⟩) (by simp only; omega) _).drew, (RB.setOther (a := ⟨nx, ok, none⟩) (by simp only; omega) _).drew, (NX.set ok _).drew.congr (fun j hj => by
                  by_cases e : j = ok
                  · simp only [if_pos e]
                  · simp only [if_neg e]), (BW.far (p := ⟨nx, ok, none⟩) (by simp only; omega) _).drew, (BN.far (p := ⟨nx, ok, none⟩) (by simp only; omega) _).drew, (BR.far (p := ⟨nx, ok, none⟩) (by simp only; omega) _).drew, (BS.far (p := ⟨nx, ok, none⟩) (by simp only; omega) _).drew⟩
              have HBb : Below w.heap.size w Wb := by subst hWb; exact (HB.setCell (p := ⟨nx, ok, none⟩) x1 _).drew
              rw [hWb]
              clear hWb r1 r2 r3 r4 f1 HSI HB c0
              have RGb := HS2.out.1
              have s1 := RGb.cell hlt
              have s2 := RGb.cell (show k - 1 < s.size by omega)
              rw [HOK.out] at s1
              rw [HOL.out] at s2
              clear RGb
              have eg : ∀ args w, (callFunc 33 args).run Try.prog w = .ok (.enter 33 args) w := enters_of Try.func33 (by kernel_rfl) rfl
              obtain ⟨cr, hcr⟩ : ∃ cr : Int, cmpW (suf s.data.toList ol (v + v)) (suf s.data.toList ok (v + v)) = cr := ⟨_, rfl⟩
              have CC : Hid (∀ V, Below Wb.heap.size Wb V → Calls Try.prog 33 #[.int .i64 (ol : Int), .int .i64 (ok : Int), .pointer (some ⟨gr, 0, none⟩), .pointer (some ⟨gs, 0, none⟩)] V fun e w' => e = .returned (.int .i64 cr) ∧ Below V.heap.size V w') := by
                refine Lib.hid fun V hV => ?_
                obtain ⟨RG, RB, NX, BW, BN, BR, BS⟩ := HS2.out
                have hV2 : Gr.SufBox V s.size v r gw w.heap.size gr rk := ⟨(BW.below hV BW.lt).cell 0, (BN.below hV BN.lt).cell 0, (BR.below hV BR.lt).cell 0, fun i hi => (rowIs_below RB hV RB.lt).cell hi⟩
                refine (Gr.sufCmp V s.size v r gw w.heap.size gr rk gs hV2 ((BS.below hV BS.lt).cell 0) ol ok HP2 HP1 (by omega) (by omega)).mono ?_
                rintro e w' ⟨rfl, hg⟩
                have hS : s.data.toList.length = s.size := by simp
                have k5 := twice_cmp (S := s.data.toList) HSR.out hv0 ol ok (by omega) (by omega)
                rw [hS] at k5
                rw [k5, hcr]
                exact ⟨rfl, hg.below⟩
              have HCR := Lib.hid hcr
              clear hcr
              obtain ⟨km, hkm⟩ : ∃ km, k - 1 = km := ⟨_, rfl⟩
              have hwk : IntKind.i64.wrap ((k : Int) - 1) = (km : Int) := by rw [IntWalk.i64_in _ (by omega)]; omega
              have j4 : (0 : Int) ≤ (km : Int) := by omega
              have j5 : (km : Int) < (s.size : Int) := by omega
              rw [hkm] at s2
              clear e1 j2 j3
              have HKM := Lib.hid hkm
              clear hkm
              refine wp_region_ph [([0, 1, 2, 3, 4, 5, 6, 7, 8, 9, 10, 11], [])] (fun w' => Below Wb.heap.size Wb w') (by kernel_rfl) (by kernel_rfl) (fun _ _ h1 h2 => bstep h1 h2) (Below.refl _ _) ?_
              intro ι FF hne hFF W0 hW0 hI0
              have p1 : ∀ i, (FF i).cell? ⟨g, k, none⟩ = some (.int .i64 (ok : Int)) := fun i => ((hFF i).cell (p := ⟨g, k, none⟩) (block_lt_of_cell s1)).trans s1
              have p2 : ∀ i, (FF i).cell? ⟨g, km, none⟩ = some (.int .i64 (ol : Int)) := fun i => ((hFF i).cell (p := ⟨g, km, none⟩) (block_lt_of_cell s2)).trans s2
              (refine wpPh_cons ?_; simp only [pickOps, List.getElem?_cons_succ, List.getElem?_cons_zero])
              repeat (refine wpB_step (fun K hK => ?_); go_simp; first | (refine hK _ ?_; clear hK K) | (apply Exists.intro; refine ⟨fun _ => ?_, hK _ ?_⟩; (((with_reducible refine (CC.out _ (hFF _)).mono ?_); rintro e w1 ⟨rfl, hb⟩; exact ⟨rfl, hb⟩)); clear hK K))
              refine wpB_nil ?_
              intro w4 hw4 hI4
              have HI4 := Lib.hid hI4
              clear p1 p2 hw4 hI4 hFF
              refine wpRB_nil ?_
              refine wpPh_nil ?_
              have HS4 : Hid (SIn s.data.toList s.size g w.heap.size gr gs gw rk v nx r o' (fun j => if j = ok then D else nxt (fun k => suf s.data.toList (o' k) (v + v)) p' k j) w4) := by
                obtain ⟨RG, RB, NX, BW, BN, BR, BS⟩ := HS2.out
                have hV := HI4.out
                exact Lib.hid ⟨rowIs_below RG hV RG.lt, rowIs_below RB hV RB.lt, rowIs_below NX hV NX.lt, BW.below hV BW.lt, BN.below hV BN.lt, BR.below hV BR.lt, BS.below hV BS.lt⟩
              have HB4 := Lib.hid (bstep HBb HI4.out)
              have s4 := (HI4.out.cell (p := ⟨g, k, none⟩) (block_lt_of_cell s1)).trans s1
              clear s1 s2 eg CC HS2 HBb
              have t1 := HS4.out.2.2.1.cell HP1
              have t2 := HS4.out.2.2.1.frozen ok
              replace t1 : w4.cell? ⟨nx, ok, none⟩ = some (.int .i64 (D : Int)) := by simpa using t1
              have HX : Hid (cr = 0 ↔ suf s.data.toList ok (v + v) = suf s.data.toList ol (v + v)) := Lib.hid (by rw [← HCR.out, cmpW_zero]; exact ⟨fun e => e.symm, fun e => e.symm⟩)
              have HN : Hid (∀ j, j < s.size → nxt (fun k => suf s.data.toList (o' k) (v + v)) p' (k + 1) j = if j = ok then D + (if cr = 0 then 0 else 1) else nxt (fun k => suf s.data.toList (o' k) (v + v)) p' k j) := Lib.hid (fun j hj => by
                have h5 := nxt_step (x := fun k => suf s.data.toList (o' k) (v + v)) HP.out k hlt j hj
                rw [h5, HOK.out]
                by_cases e : j = ok
                · rw [if_pos e, if_pos e]
                  have h6 : k = (k - 1) + 1 := by omega
                  conv => lhs; rw [h6]
                  rw [dn_succ, HD.out, ← h6]
                  simp only [HOK.out, HOL.out]
                  by_cases e2 : suf s.data.toList ok (v + v) = suf s.data.toList ol (v + v)
                  · rw [if_pos e2, if_pos (HX.out.2 e2)]
                  · rw [if_neg e2, if_neg (fun h => e2 (HX.out.1 h))]
                · rw [if_neg e, if_neg e])
              clear hwk
              have hDk : D ≤ k := by have h8 := dn_le (fun k => suf s.data.toList (o' k) (v + v)) (k - 1); have h9 := HD.out; omega
              by_cases hc : cr = 0
              · have hcb : (cr == 0) = true := by simpa using hc
                go_wp2_with fail
                obtain ⟨RG, RB, NX, BW, BN, BR, BS⟩ := HS4.out
                exact ⟨⟨k + 1, by omega, by omega, by go_num, ⟨RG, RB, NX.congr (fun j hj => by rw [HN.out j hj]; simp [hc]), BW, BN, BR, BS⟩, HB4.out⟩, by simp [intOf]; omega⟩
              · have hcb : (cr == 0) = false := by simpa using hc
                go_wp2_with fail
                obtain ⟨RG, RB, NX, BW, BN, BR, BS⟩ := HS4.out
                exact ⟨⟨k + 1, by omega, by omega, by go_num, ⟨RG.setOther (a := ⟨nx, ok, none⟩) (by simp only; omega) _, RB.setOther (a := ⟨nx, ok, none⟩) (by simp only; omega) _, (NX.set ok _).congr (fun j hj => by
                  rw [HN.out j hj]
                  by_cases e : j = ok
                  · simp [e, hc]
                  · simp [e]), BW.far (p := ⟨nx, ok, none⟩) (by simp only; omega) _, BN.far (p := ⟨nx, ok, none⟩) (by simp only; omega) _, BR.far (p := ⟨nx, ok, none⟩) (by simp only; omega) _, BS.far (p := ⟨nx, ok, none⟩) (by simp only; omega) _⟩, HB4.out.setCell (p := ⟨nx, ok, none⟩) x1 _⟩, by simp [intOf]; omega⟩
            · obtain rfl : k = s.size := by omega
              have hsz : s.size - 1 < s.size := by omega
              obtain ⟨oz, hoz⟩ : ∃ oz, o' (s.size - 1) = oz := ⟨_, rfl⟩
              have HZ := (HP.out (s.size - 1) hsz).1
              have a1 := RG.cell hsz
              have q3 := nxt_at (x := fun k => suf s.data.toList (o' k) (v + v)) HP.out (s.size - 1) s.size hsz hsz
              rw [hoz] at HZ a1 q3
              have a2 := NX.cell HZ
              rw [q3] at a2
              obtain ⟨D, hD⟩ : ∃ D, dn (fun k => suf s.data.toList (o' k) (v + v)) (s.size - 1) = D := ⟨_, rfl⟩
              rw [hD] at a2
              have hDk : D ≤ s.size := by have h8 := dn_le (fun k => suf s.data.toList (o' k) (v + v)) (s.size - 1); omega
              have HSI := Lib.hid (show SIn s.data.toList s.size g w.heap.size gr gs gw rk v nx r o' (nxt (fun k => suf s.data.toList (o' k) (v + v)) p' s.size) wr from ⟨RG, RB, NX, BW, BN, BR, BS⟩)
              have b1 := BR.cell 0
              have b2 := BR.frozen 0
              have HD := Lib.hid hD
              have HOZ := Lib.hid hoz
              clear RG RB NX BW BN BR BS hD hoz q3
              obtain ⟨sm, hsm⟩ : ∃ sm, s.size - 1 = sm := ⟨_, rfl⟩
              have hwk : IntKind.i64.wrap ((s.size : Int) - 1) = (sm : Int) := by rw [IntWalk.i64_in _ (by omega)]; omega
              have j0 : (0 : Int) ≤ (sm : Int) := by omega
              have j1 : (sm : Int) < (s.size : Int) := by omega
              have j2 : (0 : Int) ≤ (oz : Int) := by omega
              have j3 : (oz : Int) < (s.size : Int) := by omega
              rw [hsm] at a1
              have HSM := Lib.hid hsm
              clear hsm
              have hz : ((s.size : Int) == 0) = false := beq_eq_false_iff_ne.2 (by omega)
              have hgr : w.heap.size ≠ gr := by omega
              go_wp2_with fail
              obtain ⟨Wb, hWb⟩ : ∃ Wb, wr.setCell ⟨gr, 0, none⟩ (.slice (some ⟨nx, 0, none⟩) s.size s.size) = Wb := ⟨_, rfl⟩
              have HS2 : Hid (wr.heap.size = wr.heap.size ∧ SIn s.data.toList s.size g w.heap.size gr gs gw nx v nx (nxt (fun k => suf s.data.toList (o' k) (v + v)) p' s.size) o' (nxt (fun k => suf s.data.toList (o' k) (v + v)) p' s.size) Wb) := by
                obtain ⟨RG, RB, NX, BW, BN, BR, BS⟩ := HSI.out
                subst hWb
                exact Lib.hid ⟨rfl, RG.setOther (a := ⟨gr, 0, none⟩) (by simp only; omega) _, NX.setOther (a := ⟨gr, 0, none⟩) (by simp only; omega) _, NX.setOther (a := ⟨gr, 0, none⟩) (by simp only; omega) _, BW.far (p := ⟨gr, 0, none⟩) (by simp only; omega) _, BN.far (p := ⟨gr, 0, none⟩) (by simp only; omega) _, BR.set_ 0 _, BS.far (p := ⟨gr, 0, none⟩) (by simp only; omega) _⟩
              have HBb : Below w.heap.size w Wb := by subst hWb; exact HB.setCell (p := ⟨gr, 0, none⟩) (by simp only; omega) _
              rw [hWb]
              have hsz2 : Wb.heap.size = wr.heap.size := by subst hWb; simp
              have a1' : Wb.cell? ⟨g, sm, none⟩ = some (.int .i64 (oz : Int)) := by subst hWb; rw [World.cell?_setCell_other _ _ _ _ (fun e => by injection e with e; omega)]; exact a1
              have a2' : Wb.cell? ⟨nx, oz, none⟩ = some (.int .i64 (D : Int)) := by subst hWb; rw [World.cell?_setCell_other _ _ _ _ (fun e => by injection e with e; omega)]; exact a2
              have c0' : Wb.cell? ⟨w.heap.size, 0, none⟩ = some (.int .i64 (s.size : Int)) := HS2.out.2.2.2.2.2.1.cell 0
              have b1' : Wb.cell? ⟨gr, 0, none⟩ = some (.slice (some ⟨nx, 0, none⟩) s.size s.size) := HS2.out.2.2.2.2.2.2.1.cell 0
              clear hWb a1 a2 c0 b1 b2 HSI HB
              by_cases hc : D = sm
              · have hcb : ((D : Int) == (sm : Int)) = true := beq_iff_eq.2 (by omega)
                go_quiet (fail)
                go_wp2_with fail
                go_ret
                obtain ⟨_, RG, RB, NX, BW, BN, BR, BS⟩ := HS2.out
                have hd : dn (fun k => suf s.data.toList (o' k) (v + v)) (s.size - 1) = s.size - 1 := by have h8 := HD.out; have h9 := HSM.out; omega
                exact ⟨g, o', p', rfl, by omega, ends_up (by simp) HP.out HU.out hd, RG, below_drewN HBb nq⟩
              · have hcb : ((D : Int) == (sm : Int)) = false := beq_eq_false_iff_ne.2 (by omega)
                have hv2 : v + v ≤ s.size := by
                  rcases Nat.lt_or_ge (v + v) s.size with q | q
                  · omega
                  · have h8 := all_differ (S := s.data.toList) (by simp) HP.out q
                    have h9 := HD.out
                    have h10 := HSM.out
                    omega
                go_quiet (fail)
                have w1 := (HS2.out.2.2.2.2.1.drewN nq).cell 0
                go_wp2_with fail
                obtain ⟨_, RG, RB, NX, BW, BN, BR, BS⟩ := HS2.out
                have t1 := RG.lt
                have t2 := BN.lt
                have t3 := BR.lt
                have t4 := NX.lt
                have hS : s.data.toList.length = s.size := by simp
                have ew : (v : Int) * 2 = ((v + v : Nat) : Int) := by omega
                have BX := Blk.new Wb 3 #[.int .i64 ((v + v : Nat) : Int)]
                rw [ew]
                rw [← hsz2]
                have kk := (BX.drewN nq).cell 0
                refine ⟨⟨⟨Wb.heap.size, nx, v + v, _, o', p', rfl, HP.out, nxt_rank hS HP.out HU.out, by omega, hv2, (RG.alloc _), (NX.alloc _), BX.drewN nq, (BN.alloc _).drewN nq, (BR.alloc _).drewN nq, by omega, by omega, by omega, by omega, by omega, HBb.size⟩, below_drewN (HBb.alloc HBb.size _) nq⟩, ?_⟩
                rw [HWD.out]
                unfold wdOf
                simp only [kk]
                simp [intOf]
                omega
end Go.Proofs.Ytacjckocjngfoaa
