/-
  The walk of merge.hunks.
-/
import Derived.Test.YtpgjjnbepkofdaaMrgF
import Derived.Test.YtpgjjnbepkofdaaWay
import Derived.Test.YtpgjjnbepkofdaaSrb
import Derived.Test.YtpgjjnbepkofdaaLn
import Derived.Test.YtpgjjnbepkofdaaMix
import Derived.Test.YtpgjjnbepkofdaaOff
import Derived.BigQuiet
namespace Go.Proofs.Ytpgjjnbepkofdaa
open Go.RowKit
set_option linter.unusedVariables false
set_option linter.unusedSimpArgs false

/-- A hunk in memory, and the slice of its lines. -/
structure HV where
  h : Hk ByteArray
  v : Value
def hvc (x : HV) : List Value := [.int .i64 (x.h.lo : Int), .int .i64 (x.h.hi : Int), x.v]
theorem hvc_len (x : HV) : (hvc x).length = 3 := rfl
theorem hunk_info : (Try.prog.info? 147).map (fun i => (i.zero, i.size, i.bytes)) = some (some (.agg #[.int .i64 0, .int .i64 0, .slice none 0 0]), 3, 40) := by kernel_rfl
def linesOf (x : HV) : List Value := x.h.ls.map .string
def RowsOwn (B1 : Nat) (l : List HV) (W : World) : Prop := (∀ y ∈ l, OffRow W B1 9 1 y.v y.h.ls.length (linesOf y)) ∧ ∀ m x, l = m ++ [x] → ∀ y ∈ m, offBlock y.v = none ∨ offBlock y.v ≠ offBlock x.v
theorem RowsOwn.kept {B1 : Nat} {l : List HV} {W W' : World} {row : Option Nat} (h : RowsOwn B1 l W) (hg : W.grownBy W' row) (hne : ∀ y ∈ l, offBlock y.v = none ∨ offBlock y.v ≠ row) : RowsOwn B1 l W' :=
  ⟨fun y hy => (h.1 y hy).kept hg (hne y hy), h.2⟩
theorem RowsOwn.alloc {B1 : Nat} {l : List HV} {W : World} (h : RowsOwn B1 l W) (o : Obj) : RowsOwn B1 l (W.alloc o) := ⟨fun y hy => (h.1 y hy).alloc o, h.2⟩
theorem RowsOwn.drewN {B1 : Nat} {l : List HV} {W : World} (h : RowsOwn B1 l W) (n : Nat) : RowsOwn B1 l (W.drewN n) := h
theorem RowsOwn.below {B1 : Nat} {l : List HV} {W W' : World} (h : RowsOwn B1 l W) (hb : Below W.heap.size W W') : RowsOwn B1 l W' := ⟨fun y hy => (h.1 y hy).below hb, h.2⟩
theorem off_none_or {v : Value} {row : Option Nat} (h : ∀ g, row = some g → offBlock v ≠ some g) : offBlock v = none ∨ offBlock v ≠ row := by
  cases row with
  | none => cases hv : offBlock v with
    | none => exact .inl rfl
    | some g => exact .inr (by simp)
  | some g => exact .inr (h g rfl)
/-- The rows of lines are no row of hunks. -/
theorem RowsOwn.apart {B1 B2 : Nat} {l : List HV} {W : World} {e : TypeId} {size n : Nat} {vo : Value} {xs : List Value} (h : RowsOwn B1 l W) (ho : W.ownsRow B2 e size vo n xs) (hne : 9 ≠ e) : ∀ y ∈ l, offBlock y.v = none ∨ offBlock y.v ≠ vo.ownBlock := by
  intro y hy
  refine off_none_or fun g eg => ?_
  rcases own_blk ho with e1 | ⟨g', cs, e1, e2⟩
  · rw [e1] at eg; cases eg
  · rw [e1] at eg; injection eg with eg; subst eg
    exact off_blk_ne (h.1 y hy) e2 hne
theorem RowsOwn.push {B1 : Nat} {l : List HV} {W : World} (h : RowsOwn B1 l W) (a : Nat) : RowsOwn B1 (l ++ [⟨⟨a, a, []⟩, .slice none 0 0⟩]) W := by
  refine ⟨fun y hy => ?_, fun m x e y hy => ?_⟩
  · rcases List.mem_append.1 hy with hy | hy
    · exact h.1 y hy
    · rw [List.mem_singleton] at hy; subst hy; exact OffRow.nil_ _ _ _ _
  · obtain ⟨e1, e2⟩ := List.append_inj' e rfl
    injection e2 with e2
    subst e2
    cases hv : offBlock y.v with
    | none => exact .inl rfl
    | some g => exact .inr (by simp [offBlock])
/-- More lines of the last one. -/
theorem RowsOwn.more {B1 : Nat} {m : List HV} {x x' : HV} {W W' : World} (h : RowsOwn B1 (m ++ [x]) W) (hg : W.grownBy W' (offBlock x.v)) (ho : OffRow W' B1 9 1 x'.v x'.h.ls.length (linesOf x')) (hat : offBlock x'.v = offBlock x.v ∨ offBlock x'.v = some W.heap.size) : RowsOwn B1 (m ++ [x']) W' := by
  refine ⟨fun y hy => ?_, fun m2 x2 e y hy => ?_⟩
  · rcases List.mem_append.1 hy with hy | hy
    · exact (h.1 y (List.mem_append.2 (.inl hy))).kept hg (h.2 m x rfl y hy)
    · rw [List.mem_singleton] at hy; subst hy; exact ho
  · obtain ⟨e1, e2⟩ := List.append_inj' e rfl
    injection e2 with e2
    subst e1; subst e2
    rcases hat with hat | hat
    · rw [hat]; exact h.2 m x rfl y hy
    · refine .inr fun eq => ?_
      rw [hat] at eq
      have := (h.1 y (List.mem_append.2 (.inl hy))).lt _ eq
      omega
theorem SRow.of_off {w : World} {base : Nat} {e : TypeId} {v : Value} {ss : List ByteArray} (h : OffRow w base e 1 v ss.length (ss.map .string)) : SRow w v ss := by
  rcases h.2 with ⟨h0, A, rfl⟩ | ⟨g, o, cap, cur, rfl, h0, hb, hh, hnc, hcm, hs, ht⟩
  · have : ss = [] := List.eq_nil_of_length_eq_zero h0
    subst this
    exact ⟨A, 0, rfl, Nat.le_refl _, by decide, by simp, by simp⟩
  · refine ⟨_, cap, rfl, hnc, hcm, by simp, fun hp => ⟨_, rfl, (Array.getElem?_eq_some_iff.1 hh).1, fun j u hu => ?_⟩⟩
    obtain ⟨g', o', cap', e1, _, _, _, _, _, hcell, _⟩ := h.form hp
    injection e1 with e1 _ _
    injection e1 with e1
    injection e1 with e3 e4 _
    subst e3; subst e4
    rw [add_plain]; exact hcell j u hu
theorem Row.srow_plain {w : World} {A : Option Addr} {n c : Nat} {ss : List ByteArray} (h : SRow w (.slice A n c) ss) (hp : 0 < ss.length) : ∃ b o, A = some ⟨b, o, none⟩ ∧ b < w.heap.size ∧ ∀ j u, (ss.map Value.string)[j]? = some u → w.cell? ⟨b, o + j, none⟩ = some u := by
  obtain ⟨A', c', hv, _, _, hr⟩ := h
  injection hv with e1 _ _
  subst e1
  exact hr.plain hp (by omega)
theorem own_block_hunk {w : World} {base : Nat} {e : TypeId} {size g n c : Nat} {xs : List Value} (h : w.ownsRow base e size (.slice (some ⟨g, 0, none⟩) n c) n xs) : ∃ cs, Blk w g e cs := by
  rcases h.2 with ⟨h1, _⟩ | ⟨g', cap, cur, h1, _, hh, _⟩
  · cases h1
  · injection h1 with e1 _ _
    injection e1 with e1
    injection e1 with e1
    subst e1
    exact ⟨cur, hh⟩
theorem own_low2 {w : World} {b b' : Nat} {e : TypeId} {size n : Nat} {v : Value} {xs : List Value} (h : w.ownsRow b e size v n xs) (hb : b' ≤ b) : w.ownsRow b' e size v n xs := own_mono h hb
/-- What the steps so far have made. -/
structure HSt (a b : List ByteArray) (ss : List St) (B1 : Nat) (w1 : World) (j at_ to_ : Nat) (kept : Bool) (l : List HV) (vo : Value) (W : World) : Prop where
  j1 : j ≤ ss.length
  fo : foldH b hs0 (ss.take j) = ⟨l.map HV.h, at_, to_, kept⟩
  ok : okK (expand (ss.drop j)) (a.drop at_) (b.drop to_)
  la : at_ ≤ a.length
  lb : to_ ≤ b.length
  ll : l.length ≤ j
  lt : ∀ x ∈ l, x.h.ls.length ≤ to_
  lk : kept = false → l ≠ []
  ow : W.ownsRow B1 147 3 vo l.length (cellsOf hvc l)
  be : Below B1 w1 W
  lo : RowsOwn B1 l W
theorem RowsOwn.same {B1 : Nat} {m : List HV} {x x' : HV} {W : World} (h : RowsOwn B1 (m ++ [x]) W) (h1 : x'.v = x.v) (h2 : x'.h.ls = x.h.ls) : RowsOwn B1 (m ++ [x']) W := by
  refine ⟨fun y hy => ?_, fun m2 x2 e y hy => ?_⟩
  · rcases List.mem_append.1 hy with hy | hy
    · exact h.1 y (List.mem_append.2 (.inl hy))
    · rw [List.mem_singleton] at hy; subst hy
      have := h.1 x (by simp)
      unfold linesOf at this ⊢
      rw [h1, h2]; exact this
  · obtain ⟨e1, e2⟩ := List.append_inj' e rfl
    injection e2 with e2
    subst e1; subst e2
    rw [h1]; exact h.2 m x rfl y hy
theorem hv_cell {W : World} {B g cap : Nat} {m : List HV} {x : HV} (h : W.ownsRow B 147 3 (.slice (some ⟨g, 0, none⟩) (m.length + 1) cap) (m.length + 1) (cellsOf hvc (m ++ [x]))) (i : Nat) (hi : i < 3) (u : Value) (hu : (hvc x)[i]? = some u) : W.cell? ⟨g, m.length * 3 + i, none⟩ = some u := by
  have h1 := cellsOf_at hvc_len (m ++ [x]) m.length (by simp) i hi
  rw [show (m ++ [x])[m.length]'(by simp) = x by simp, hu] at h1
  have := h.cells (g := g) rfl _ _ h1
  rwa [add_head] at this
theorem hv_set {W : World} {B g cap : Nat} {m : List HV} {x x' : HV} (h : W.ownsRow B 147 3 (.slice (some ⟨g, 0, none⟩) (m.length + 1) cap) (m.length + 1) (cellsOf hvc (m ++ [x]))) (i : Nat) (hi : i < 3) (u : Value) (hx : hvc x' = (hvc x).set i u) :
    (W.setCell ⟨g, m.length * 3 + i, none⟩ u).ownsRow B 147 3 (.slice (some ⟨g, 0, none⟩) (m.length + 1) cap) (m.length + 1) (cellsOf hvc (m ++ [x'])) := by
  have h1 := (h.stored (m.length * 3 + i) u).1
  have h2 := cellsOf_set hvc_len (m ++ [x]) m.length (by simp) i hi u x' (by rw [show (m ++ [x])[m.length]'(by simp) = x by simp]; exact hx)
  rw [h2, show (m ++ [x]).set m.length x' = m ++ [x'] by simp] at h1
  exact h1
theorem HSt.kept1 {a b : List ByteArray} {ss : List St} {B1 : Nat} {w1 : World} {j at_ to_ c : Nat} {kept : Bool} {l : List HV} {vo : Value} {W : World} (H : HSt a b ss B1 w1 j at_ to_ kept l vo W) (hlt : j < ss.length)
    (hok : okK (List.replicate c 1 ++ expand (ss.drop (j + 1))) (a.drop at_) (b.drop to_)) (hfo : foldH b hs0 (ss.take (j + 1)) = hstep b ⟨l.map HV.h, at_, to_, kept⟩ ⟨1, c⟩) (hB : B1 ≤ W.heap.size) (o : Obj) (n : Nat) :
    HSt a b ss B1 w1 (j + 1) (at_ + c) (to_ + c) true l vo ((W.alloc o).drewN n) := by
  obtain ⟨h1, h2, h3, h4⟩ := ok_rep1 c _ _ _ hok
  have l1 := H.la
  have l2 := H.lb
  rw [List.length_drop] at h1 h2
  rw [List.drop_drop, List.drop_drop] at h4
  exact ⟨hlt, by rw [hfo]; rfl, h4, by omega, by omega, by have := H.ll; omega, fun x hx => by have := H.lt x hx; omega, fun h => (by cases h), (H.ow.alloc o), below_drewN (H.be.alloc hB o) n, (H.lo.alloc o).drewN n⟩
theorem off_low {w : World} {b b' : Nat} {e : TypeId} {size n : Nat} {v : Value} {xs : List Value} (h : OffRow w b e size v n xs) (hb : b' ≤ b) : OffRow w b' e size v n xs := by
  refine ⟨h.1, ?_⟩
  rcases h.2 with hn | ⟨g, o, cap, cur, e1, h0, hg, rest⟩
  · exact .inl hn
  · exact .inr ⟨g, o, cap, cur, e1, h0, Nat.le_trans hb hg, rest⟩
def HunksPost (a b : List ByteArray) (w : World) (e : Ending) (w' : World) : Prop :=
  ∃ v l, e = .returned v ∧ l.map HV.h = hunksOf a b ∧ w'.ownsRow w.heap.size 147 3 v l.length (cellsOf hvc l) ∧ (∀ x ∈ l, OffRow w' w.heap.size 9 1 x.v x.h.ls.length (linesOf x)) ∧ l.length ≤ 400 ∧ Below w.heap.size w w'
set_option maxRecDepth 100000 in
set_option maxHeartbeats 8000000 in
theorem hunks_any (va vb : Value) (a b : List ByteArray) (w : World) (ha : SRow w va a) (hb : SRow w vb b) (hn : a.length ≤ 100) (hm : b.length ≤ 100) :
    Calls Try.prog 68 #[va, vb] w (HunksPost a b w) := by
  have WA := Lib.hid (way_any va vb a b w ha hb (by omega) (by omega))
  obtain ⟨Aa, ca, rfl, hla, hca, hra⟩ := id ha
  obtain ⟨Ab, cb, rfl, hlb, hcb, hrb⟩ := id hb
  unfold maxLen at hca hcb
  have HB := Lib.hid hb
  have HLEN := Lib.hid (way_len _ a b (Nat.le_refl _))
  clear ha hb hra hrb
  go_enter Try.func68, Try.ntmps68
  go_wp2_with fail
  refine WA.out.mono ?_
  rintro e w1 ⟨v, rfl, hown, HB1⟩
  obtain ⟨A2, c2, rfl, hA2, hc2⟩ := own_slice hown
  have hss : (steps (way a b)).length ≤ 200 := by
    have h1 := grp_len _ (grp_steps (way a b))
    have h2 := expand_steps (way a b)
    unfold total at h1
    rw [h2] at h1
    have := HLEN.out
    omega
  have hkd : ∀ s ∈ steps (way a b), 1 ≤ s.k ∧ s.k ≤ 3 := steps_kind _ (way_kind _ a b (Nat.le_refl _))
  have hcc : ∀ s ∈ steps (way a b), 1 ≤ s.c := fun x hx => by
    obtain ⟨i, hi, rfl⟩ := List.getElem_of_mem hx
    exact (grp_at _ (grp_steps _) i hi).1
  have h0 : HSt a b (steps (way a b)) w1.heap.size w1 0 0 0 true [] (.slice none 0 0) w1 := ⟨Nat.zero_le _, rfl, by
    rw [List.drop_zero, List.drop_zero, List.drop_zero, expand_steps]
    exact way_ok _ a b (Nat.le_refl _), Nat.zero_le _, Nat.zero_le _, Nat.le_refl _, by simp, fun h => (by cases h), ⟨rfl, .inl ⟨rfl, rfl⟩⟩, Below.refl _ _, ⟨by simp, fun m x e => by simp at e⟩⟩
  have HR := Lib.hid (Reads.of_own hown)
  have HU : Hid (hunksOf a b = (foldH b hs0 (steps (way a b))).out) := Lib.hid rfl
  have HKD := Lib.hid hkd
  have HCC := Lib.hid hcc
  have HH0 := Lib.hid h0
  clear hown hkd hcc WA HLEN h0
  generalize steps (way a b) = ss at *
  go_wp2_with fail
  go_loopw [5, 6, 7, 8, 16] (fun vo va vt vk vi W => ∃ (j at_ to_ : Nat) (kept : Bool) (l : List HV), vi = .int .i64 (j : Int) ∧ va = .int .i64 (at_ : Int) ∧ vt = .int .i64 (to_ : Int) ∧ vk = .bool kept ∧ HSt a b ss w1.heap.size w1 j at_ to_ kept l vo W) (fun _ _ _ _ vi _ => ss.length - (intOf vi).toNat)
  case atStart => exact ⟨0, 0, 0, true, [], rfl, rfl, rfl, rfl, HH0.out⟩
  case round =>
    clear HH0
    obtain ⟨j, at_, to_, kept, l, rfl, rfl, rfl, rfl, H⟩ := hrel
    have hj1 := H.j1
    by_cases hlt : j < ss.length
    · obtain ⟨bs, os, rfl, hbs, sc⟩ := CRow.at_ stc_len (by omega) (HR.out.below H.be) hlt
      have s0 := sc 0 _ rfl
      have s1 := sc 1 _ rfl
      simp only [Nat.add_zero] at s0
      rw [← Nat.add_assoc] at s1
      clear sc
      have hk3 := HKD.out _ (List.getElem_mem hlt)
      have hc1 := HCC.out _ (List.getElem_mem hlt)
      have hok := H.ok
      rw [List.drop_eq_getElem_cons hlt, expand_cons] at hok
      have hfo : foldH b hs0 (ss.take (j + 1)) = hstep b ⟨l.map HV.h, at_, to_, kept⟩ ss[j] := by
        rw [List.take_succ_eq_append_getElem hlt]
        have := H.fo
        unfold foldH at this ⊢
        rw [List.foldl_append, this]; rfl
      generalize ss[j] = st at *
      obtain ⟨k, c⟩ := st
      simp only at hk3 hc1 hok s0 s1
      have l1 := H.la
      have l2 := H.lb
      have l3 := H.be.size
      obtain ⟨A5, c5, rfl, hA5, hc5⟩ := own_slice H.ow
      rcases (show k = 1 ∨ k = 2 ∨ k = 3 by omega) with rfl | rfl | rfl
      · obtain ⟨h1, h2, _, _⟩ := ok_rep1 c _ _ _ hok
        rw [List.length_drop] at h1 h2
        have HK := Lib.hid (fun o n => H.kept1 hlt hok hfo l3 o n)
        clear H hok hfo hk3
        go_wp2_with fail
        go_quiet (fail)
        go_wp2_with fail
        exact ⟨⟨j + 1, at_ + c, to_ + c, true, l, by go_num, by go_num, by go_num, rfl, HK.out _ _⟩, by simp [intOf]; omega⟩
      · have s0' : wr.cell? ⟨bs, os + j * 2, none⟩ = some (.int .i64 2) := s0
        clear s0 hk3
        obtain ⟨h1, _⟩ := ok_rep2 c _ _ _ hok
        rw [List.length_drop] at h1
        rcases kept with _ | _
        · obtain ⟨m, x, hmx⟩ : ∃ m x, l = m ++ [x] := by
            rcases List.eq_nil_or_concat l with e | ⟨m, x, e⟩
            · exact absurd e (H.lk rfl)
            · exact ⟨m, x, by rw [e, List.concat_eq_append]⟩
          subst hmx
          have OW0 := H.ow
          obtain ⟨g, cap, hv5, hgb, hgl⟩ := OW0.form (by simp)
          have hlen : (m ++ [x]).length = m.length + 1 := by simp
          rw [hlen] at OW0 hv5
          rw [hlen]
          injection hv5 with e1 _ e3
          subst e1
          subst e3
          have OW := OW0.alloc (.cells #[.int .i64 2, .int .i64 (c : Int)] 145)
          have BX2 := Blk.new wr 145 #[.int .i64 2, .int .i64 (c : Int)]
          have RO := H.lo.alloc (.cells #[.int .i64 2, .int .i64 (c : Int)] 145)
          have BE := H.be.alloc l3 (.cells #[.int .i64 2, .int .i64 (c : Int)] 145)
          have LT := H.lt
          have LM : m.length + 1 ≤ j + 1 := by have := H.ll; rw [hlen] at this; omega
          have PU : Hid (push (⟨(m ++ [x]).map HV.h, at_, to_, false⟩ : HS ByteArray) = (m ++ [x]).map HV.h) := Lib.hid (by simp [push])
          have HF := Lib.hid hfo
          clear H hfo OW0 hlen hgl
          have cg := hv_cell OW 1 (by decide) (.int .i64 (x.h.hi : Int)) rfl
          have cf := OW.frozenAt (m.length * 3 + 1)
          have b0 := BX2.cell 0
          have b1 := BX2.cell 1
          obtain ⟨xh, hxh⟩ : ∃ n, x.h.hi = n := ⟨_, rfl⟩
          rw [hxh] at cg
          clear hxh
          go_wp2_with fail
          have hmx : ∀ y ∈ m ++ [(⟨⟨x.h.lo, at_ + c, x.h.ls⟩, x.v⟩ : HV)], y.h.ls.length ≤ to_ := fun y hy => by
            rcases List.mem_append.1 hy with hy | hy
            · exact LT y (List.mem_append.2 (.inl hy))
            · rw [List.mem_singleton] at hy; subst hy; exact LT x (by simp)
          have hok4 := (ok_rep2 c _ _ _ hok).2
          rw [List.drop_drop] at hok4
          have eat : (at_ : Int) + (c : Int) = ((at_ + c : Nat) : Int) := by omega
          refine ⟨⟨j + 1, at_ + c, to_, false, m ++ [⟨⟨x.h.lo, at_ + c, x.h.ls⟩, x.v⟩], by go_num, by go_num, rfl, rfl, ?_⟩, by simp [intOf]; omega⟩
          rw [eat]
          refine ⟨hlt, ?_, hok4, by omega, l2, by simp; omega, hmx, fun _ => by simp, ?_, BE.setCell (p := ⟨g, m.length * 3 + 1, none⟩) hgb _, ?_⟩
          · rw [HF.out]
            unfold hstep
            rw [if_neg (show ¬ ((2 : Nat) = 1) by decide), if_pos rfl, PU.out, List.map_append, List.map_append]
            simp only [List.map_cons, List.map_nil]
            rw [setLast_snoc]
          · have := hv_set (x' := ⟨⟨x.h.lo, at_ + c, x.h.ls⟩, x.v⟩) OW 1 (by decide) (.int .i64 ((at_ + c : Nat) : Int)) rfl
            simpa using this
          · exact (RO.kept (grown_set _ ⟨g, m.length * 3 + 1, none⟩ _) (by
              have := RO.apart OW (by decide)
              simpa [Value.ownBlock] using this)).same rfl rfl
        · have BX := Blk.new wr 145 #[.int .i64 2, .int .i64 (c : Int)]
          have OW0 := H.ow.alloc (.cells #[.int .i64 2, .int .i64 (c : Int)] 145)
          have RO0 := H.lo.alloc (.cells #[.int .i64 2, .int .i64 (c : Int)] 145)
          have BE0 := H.be.alloc l3 (.cells #[.int .i64 2, .int .i64 (c : Int)] 145)
          have LL := H.ll
          go_wp2_with (at_builtin; go_loud (refine wpList_appN rfl (.tmp 32) (.tmp 36) _ rfl w1.heap.size 147 _ 3 40 Try.underlying118 hunk_info rfl (by decide) _ l.length (cellsOf hvc l) rfl OW0 [.int .i64 (at_ : Int), .int .i64 (at_ : Int), .slice none 0 0] rfl _ rfl (by simp) rfl (by simp [Value.oneCell']) (by omega) (by omega) BE0.size ?_))
          intro v' w2 h2 h3 hg5
          obtain ⟨g, cap, rfl, hgb, hgl⟩ := h2.form (by omega)
          have RO := (RO0.kept hg5 (RO0.apart OW0 (by decide))).push at_
          have BE := h3 w1.heap.size (Nat.le_refl _) _ BE0
          have BX2 := BX.grown hg5 (Ne.symm (own_blk_ne OW0 BX (by decide)))
          have PU : Hid (push (⟨l.map HV.h, at_, to_, true⟩ : HS ByteArray) = (l ++ [(⟨⟨at_, at_, []⟩, .slice none 0 0⟩ : HV)]).map HV.h) := Lib.hid (by simp [push])
          have OW : w2.ownsRow w1.heap.size 147 3 (.slice (some ⟨g, 0, none⟩) (l.length + 1) cap) (l.length + 1) (cellsOf hvc (l ++ [(⟨⟨at_, at_, []⟩, .slice none 0 0⟩ : HV)])) := by rw [cellsOf_snoc]; exact h2
          have LT : ∀ y ∈ l ++ [(⟨⟨at_, at_, []⟩, .slice none 0 0⟩ : HV)], y.h.ls.length ≤ to_ := fun y hy => by
            rcases List.mem_append.1 hy with hy | hy
            · exact H.lt y hy
            · rw [List.mem_singleton] at hy; subst hy; exact Nat.zero_le _
          have LM : l.length + 1 ≤ j + 1 := by omega
          generalize (⟨⟨at_, at_, []⟩, .slice none 0 0⟩ : HV) = x at *
          have HF := Lib.hid hfo
          clear H hfo OW0 RO0 BE0 BX LL h2 h3 hg5 hgl
          generalize l = m at *
          have cg := hv_cell OW 1 (by decide) (.int .i64 (x.h.hi : Int)) rfl
          have cf := OW.frozenAt (m.length * 3 + 1)
          have b0 := BX2.cell 0
          have b1 := BX2.cell 1
          obtain ⟨xh, hxh⟩ : ∃ n, x.h.hi = n := ⟨_, rfl⟩
          rw [hxh] at cg
          clear hxh
          go_wp2_with fail
          have hmx : ∀ y ∈ m ++ [(⟨⟨x.h.lo, at_ + c, x.h.ls⟩, x.v⟩ : HV)], y.h.ls.length ≤ to_ := fun y hy => by
            rcases List.mem_append.1 hy with hy | hy
            · exact LT y (List.mem_append.2 (.inl hy))
            · rw [List.mem_singleton] at hy; subst hy; exact LT x (by simp)
          have hok4 := (ok_rep2 c _ _ _ hok).2
          rw [List.drop_drop] at hok4
          have eat : (at_ : Int) + (c : Int) = ((at_ + c : Nat) : Int) := by omega
          refine ⟨⟨j + 1, at_ + c, to_, false, m ++ [⟨⟨x.h.lo, at_ + c, x.h.ls⟩, x.v⟩], by go_num, by go_num, rfl, rfl, ?_⟩, by simp [intOf]; omega⟩
          rw [eat]
          refine ⟨hlt, ?_, hok4, by omega, l2, by simp; omega, hmx, fun _ => by simp, ?_, BE.setCell (p := ⟨g, m.length * 3 + 1, none⟩) hgb _, ?_⟩
          · rw [HF.out]
            unfold hstep
            rw [if_neg (show ¬ ((2 : Nat) = 1) by decide), if_pos rfl, PU.out, List.map_append, List.map_append]
            simp only [List.map_cons, List.map_nil]
            rw [setLast_snoc]
          · have := hv_set (x' := ⟨⟨x.h.lo, at_ + c, x.h.ls⟩, x.v⟩) OW 1 (by decide) (.int .i64 ((at_ + c : Nat) : Int)) rfl
            simpa using this
          · exact (RO.kept (grown_set _ ⟨g, m.length * 3 + 1, none⟩ _) (by
              have := RO.apart OW (by decide)
              simpa [Value.ownBlock] using this)).same rfl rfl
      · have s0' : wr.cell? ⟨bs, os + j * 2, none⟩ = some (.int .i64 3) := s0
        clear s0 hk3
        obtain ⟨h1, _⟩ := ok_rep3 c _ _ _ hok
        rw [List.length_drop] at h1
        obtain ⟨b0, o0, rfl, hb0, hcell0⟩ := Row.srow_plain HB.out (by omega)
        have HCE := Lib.hid hcell0
        clear hcell0
        rcases kept with _ | _
        · obtain ⟨m, x, hmx⟩ : ∃ m x, l = m ++ [x] := by
            rcases List.eq_nil_or_concat l with e | ⟨m, x, e⟩
            · exact absurd e (H.lk rfl)
            · exact ⟨m, x, by rw [e, List.concat_eq_append]⟩
          subst hmx
          have OW0 := H.ow
          obtain ⟨g, cap, hv5, hgb, hgl⟩ := OW0.form (by simp)
          have hlen : (m ++ [x]).length = m.length + 1 := by simp
          rw [hlen] at OW0 hv5
          rw [hlen]
          injection hv5 with e1 _ e3
          subst e1
          subst e3
          have OW := OW0.alloc (.cells #[.int .i64 3, .int .i64 (c : Int)] 145)
          have BX2 := Blk.new wr 145 #[.int .i64 3, .int .i64 (c : Int)]
          have RO := H.lo.alloc (.cells #[.int .i64 3, .int .i64 (c : Int)] 145)
          have BE := H.be.alloc l3 (.cells #[.int .i64 3, .int .i64 (c : Int)] 145)
          have LT := H.lt
          have LM : m.length + 1 ≤ j + 1 := by have := H.ll; rw [hlen] at this; omega
          have PU : Hid (push (⟨(m ++ [x]).map HV.h, at_, to_, false⟩ : HS ByteArray) = (m ++ [x]).map HV.h) := Lib.hid (by simp [push])
          have HF := Lib.hid hfo
          clear H hfo OW0 hlen hgl
          obtain ⟨Ax, cx, hxv, hx1, hx2⟩ := off_slice (RO.1 x (by simp))
          unfold maxLen at hx2
          have cg := hv_cell OW 2 (by decide) x.v rfl
          have cf := OW.frozenAt (m.length * 3 + 2)
          rw [hxv] at cg
          have b1 := BX2.cell 0
          have b2 := BX2.cell 1
          have HXV := Lib.hid hxv
          have hxl := LT x (by simp)
          clear hxv
          go_wp2_with fail
          clear b1 b2 s0' s1
          generalize (wr.alloc (.cells #[.int .i64 3, .int .i64 (c : Int)] 145)) = Wy at *
          have b2 : Wy.cell? ⟨wr.heap.size, 1, none⟩ = some (.int .i64 (c : Int)) := BX2.cell 1
          have hKp : Kept [(g, m.length * 3 + 2, .slice Ax x.h.ls.length cx), (wr.heap.size, 1, .int .i64 (c : Int))] Wy := fun y hy => by
            simp only [List.mem_cons, List.not_mem_nil, or_false] at hy
            rcases hy with rfl | rfl
            · exact cg
            · exact b2
          refine wp_region_mix 12 1 (Kept [(g, m.length * 3 + 2, .slice Ax x.h.ls.length cx), (wr.heap.size, 1, .int .i64 (c : Int))]) (by kernel_rfl) (by kernel_rfl) (fun _ _ h1 h2 => h1.below h2) hKp ?_
          intro ι F hne hF
          have cgF : ∀ i, (F i).cell? ⟨g, m.length * 3 + 2, none⟩ = some (.slice Ax x.h.ls.length cx) := fun i => hF i (g, m.length * 3 + 2, .slice Ax x.h.ls.length cx) (by simp)
          have b2F : ∀ i, (F i).cell? ⟨wr.heap.size, 1, none⟩ = some (.int .i64 (c : Int)) := fun i => hF i (wr.heap.size, 1, .int .i64 (c : Int)) (by simp)
          have q0 : (0 : Int) ≤ (to_ : Int) := by omega
          obtain ⟨te, hte⟩ : ∃ te, to_ + c = te := ⟨_, rfl⟩
          have q1 : (to_ : Int) ≤ (te : Int) := by omega
          have q2 : (te : Int) ≤ (cb : Int) := by omega
          have q3 : (0 : Int) ≤ (te : Int) := by omega
          have w1q : IntKind.i64.wrap ((to_ : Int) + (c : Int)) = (te : Int) := by rw [IntWalk.i64_in _ (by omega)]; omega
          have HTE := Lib.hid hte
          have hcbt : ¬ cb = to_ := by omega
          have hcbt2 : ¬ cb - to_ = 0 := by omega
          clear hte
          simp only [List.take_succ_cons, List.take_zero, List.drop_succ_cons, List.drop_zero]
          repeat (refine wpB_step (fun K hK => ?_); go_simp; first | (refine hK _ ?_; clear hK K) | (apply Exists.intro; refine ⟨fun _ => ?_, hK _ ?_⟩; (fail); clear hK K))
          refine wpB_nil ?_
          intro w2 hw2 hI2
          clear cgF b2F hF
          have hbw : Below w.heap.size w w2 := bstep (bstep HB1 BE) hw2
          have ho2 := (RO.1 x (by simp)).below hw2
          rw [HXV.out] at ho2
          have hte2 := HTE.out
          have hnl : ((b.drop to_).take c).length = te - to_ := by rw [List.length_take, List.length_drop]; omega
          have hrn : Reads w2 w.heap.size 1 (some ⟨b0, o0 + to_, none⟩) (te - to_) (((b.drop to_).take c).map .string) := by
            refine ⟨by rw [List.length_map, hnl, Nat.mul_one], fun hp => ⟨_, rfl, hb0, fun q u hu => ?_⟩⟩
            rw [add_plain, Nat.add_assoc]
            rw [List.getElem?_map, List.getElem?_take] at hu
            have hq : q < c := by
              rcases Nat.lt_or_ge q c with h | h
              · exact h
              · rw [if_neg (by omega)] at hu; cases hu
            rw [if_pos hq, List.getElem?_drop] at hu
            exact (hbw.cell (p := ⟨b0, o0 + (to_ + q), none⟩) hb0).trans (HCE.out (to_ + q) u (by rw [List.getElem?_map]; exact hu))
          have BXs := BX2
          have OW2 := own_below OW hw2
          have RO2 := RO.below hw2
          have BE2 := bstep BE hw2
          have BX3 := BX2.below hw2 BX2.lt
          have hgx : offBlock x.v = none ∨ offBlock x.v ≠ some g := by have h9 := RO.apart OW (by decide) x (by simp); simpa [Value.ownBlock] using h9
          obtain ⟨iS, hi, hz0, hz1, hz2⟩ := info_parts string_info
          refine wpR_append_off _ rfl (.tmp 58) (.tmp 65) _ rfl w1.heap.size 9 iS _ 1 16 Try.underlying24 hi hz0 hz1 hz2 rfl (by decide) (.slice Ax x.h.ls.length cx) x.h.ls.length (linesOf x) rfl ho2 _ (some ⟨b0, o0 + to_, none⟩) (te - to_) _ (((b.drop to_).take c).map .string) rfl hrn (by intro u hu; obtain ⟨z, _, rfl⟩ := List.mem_map.1 hu; rfl) (by omega) (by unfold maxLen; omega) (by omega) BE2.size ?_
          intro v' w3 ho3 hg3 hat3
          rw [← HXV.out] at hg3 hat3
          refine ⟨hI2.grown hg3 (fun y hy => by
            simp only [List.mem_cons, List.not_mem_nil, or_false] at hy
            rcases hy with rfl | rfl
            · rcases hgx with h | h
              · rw [h]; simp
              · exact Ne.symm h
            · exact Ne.symm (off_blk_ne (RO2.1 x (by simp)) BX3 (by decide))), ?_⟩
          intro w4 hw4 hI4
          refine wpR_nil ?_
          have ho3' : OffRow w3 w1.heap.size 9 1 v' (x.h.ls ++ (b.drop to_).take c).length (linesOf ⟨⟨x.h.lo, x.h.hi, x.h.ls ++ (b.drop to_).take c⟩, v'⟩) := by
            unfold linesOf
            rw [List.length_append, hnl, List.map_append]
            exact ho3
          have RO3 := RO2.more (x' := ⟨⟨x.h.lo, x.h.hi, x.h.ls ++ (b.drop to_).take c⟩, v'⟩) hg3 ho3' hat3
          have RO4 := RO3.below hw4
          have OW3 := OW2.kept hg3 (by
            right
            rcases hgx with h | h
            · rw [h]; simp [Value.ownBlock]
            · simpa [Value.ownBlock] using Ne.symm h)
          have OW4 := own_below OW3 hw4
          have BX4 := (BX3.grown hg3 (Ne.symm (off_blk_ne (RO2.1 x (by simp)) BX3 (by decide)))).below hw4 (BX3.grown hg3 (Ne.symm (off_blk_ne (RO2.1 x (by simp)) BX3 (by decide)))).lt
          have BE4 := (BE2.grown hg3 BE2.size (fun q hq => ((RO2.1 x (by simp)).lt q hq).1)).trans (hw4.mono (Nat.le_trans BE2.size hg3.size))
          have cg4 := hv_cell OW4 2 (by decide) x.v rfl
          rw [HXV.out] at cg4
          have cf4 := OW4.frozenAt (m.length * 3 + 2)
          have b24 : w4.cell? ⟨wr.heap.size, 1, none⟩ = some (.int .i64 (c : Int)) := BX4.cell 1
          obtain ⟨A', c', rfl, hl', hc'⟩ := off_slice ho3'
          clear ho3 hg3 hat3 hI2 hI4 hw4 hw2 hrn ho2 cg cf b2 hKp hbw RO2 RO3 OW3 OW2 BX3 BX2 BXs BE2 hne
          have hgbx : g ≠ wr.heap.size := by obtain ⟨cs9, h9⟩ := own_block_hunk OW4; exact Blk.ne_ h9 BX4 (by decide)
          go_wp2_with fail
          have elen : (x.h.ls ++ (b.drop to_).take c).length = x.h.ls.length + (te - to_) := by rw [List.length_append, hnl]
          have ete : te = to_ + c := hte2.symm
          have hok4 := (ok_rep3 c _ _ _ hok).2
          rw [List.drop_drop, ← ete] at hok4
          refine ⟨⟨j + 1, at_, te, false, m ++ [⟨⟨x.h.lo, x.h.hi, x.h.ls ++ (b.drop to_).take c⟩, .slice A' (x.h.ls ++ (b.drop to_).take c).length c'⟩], by go_num, rfl, rfl, rfl, ?_⟩, by simp [intOf]; omega⟩
          rw [← elen]
          have hmx : ∀ y ∈ m ++ [(⟨⟨x.h.lo, x.h.hi, x.h.ls ++ (b.drop to_).take c⟩, .slice A' (x.h.ls ++ (b.drop to_).take c).length c'⟩ : HV)], y.h.ls.length ≤ te := fun y hy => by
            rcases List.mem_append.1 hy with hy | hy
            · have := LT y (List.mem_append.2 (.inl hy)); omega
            · rw [List.mem_singleton] at hy; subst hy
              show (x.h.ls ++ (b.drop to_).take c).length ≤ te
              omega
          refine ⟨hlt, ?_, hok4, l1, by omega, by simp; omega, hmx, fun _ => by simp, ?_, BE4.setCell (p := ⟨g, m.length * 3 + 2, none⟩) hgb _, ?_⟩
          · rw [HF.out]
            unfold hstep
            rw [if_neg (show ¬ ((3 : Nat) = 1) by decide), if_neg (show ¬ ((3 : Nat) = 2) by decide), PU.out, List.map_append, List.map_append]
            simp only [List.map_cons, List.map_nil]
            rw [setLast_snoc, ete]
          · have := hv_set (x' := ⟨⟨x.h.lo, x.h.hi, x.h.ls ++ (b.drop to_).take c⟩, .slice A' (x.h.ls ++ (b.drop to_).take c).length c'⟩) OW4 2 (by decide) (.slice A' (x.h.ls ++ (b.drop to_).take c).length c') rfl
            simpa using this
          · exact RO4.kept (grown_set _ ⟨g, m.length * 3 + 2, none⟩ _) (by
              have := RO4.apart OW4 (by decide)
              simpa [Value.ownBlock] using this)
        · have BX := Blk.new wr 145 #[.int .i64 3, .int .i64 (c : Int)]
          have OW0 := H.ow.alloc (.cells #[.int .i64 3, .int .i64 (c : Int)] 145)
          have RO0 := H.lo.alloc (.cells #[.int .i64 3, .int .i64 (c : Int)] 145)
          have BE0 := H.be.alloc l3 (.cells #[.int .i64 3, .int .i64 (c : Int)] 145)
          have LL := H.ll
          go_wp2_with (at_builtin; go_loud (refine wpList_appN rfl (.tmp 32) (.tmp 36) _ rfl w1.heap.size 147 _ 3 40 Try.underlying118 hunk_info rfl (by decide) _ l.length (cellsOf hvc l) rfl OW0 [.int .i64 (at_ : Int), .int .i64 (at_ : Int), .slice none 0 0] rfl _ rfl (by simp) rfl (by simp [Value.oneCell']) (by omega) (by omega) BE0.size ?_))
          intro v' w2 h2 h3 hg5
          obtain ⟨g, cap, rfl, hgb, hgl⟩ := h2.form (by omega)
          have RO := (RO0.kept hg5 (RO0.apart OW0 (by decide))).push at_
          have BE := h3 w1.heap.size (Nat.le_refl _) _ BE0
          have BX2 := BX.grown hg5 (Ne.symm (own_blk_ne OW0 BX (by decide)))
          have PU : Hid (push (⟨l.map HV.h, at_, to_, true⟩ : HS ByteArray) = (l ++ [(⟨⟨at_, at_, []⟩, .slice none 0 0⟩ : HV)]).map HV.h) := Lib.hid (by simp [push])
          have OW : w2.ownsRow w1.heap.size 147 3 (.slice (some ⟨g, 0, none⟩) (l.length + 1) cap) (l.length + 1) (cellsOf hvc (l ++ [(⟨⟨at_, at_, []⟩, .slice none 0 0⟩ : HV)])) := by rw [cellsOf_snoc]; exact h2
          have LT : ∀ y ∈ l ++ [(⟨⟨at_, at_, []⟩, .slice none 0 0⟩ : HV)], y.h.ls.length ≤ to_ := fun y hy => by
            rcases List.mem_append.1 hy with hy | hy
            · exact H.lt y hy
            · rw [List.mem_singleton] at hy; subst hy; exact Nat.zero_le _
          have LM : l.length + 1 ≤ j + 1 := by omega
          generalize (⟨⟨at_, at_, []⟩, .slice none 0 0⟩ : HV) = x at *
          have HF := Lib.hid hfo
          clear H hfo OW0 RO0 BE0 BX LL h2 h3 hg5 hgl
          generalize l = m at *
          obtain ⟨Ax, cx, hxv, hx1, hx2⟩ := off_slice (RO.1 x (by simp))
          unfold maxLen at hx2
          have cg := hv_cell OW 2 (by decide) x.v rfl
          have cf := OW.frozenAt (m.length * 3 + 2)
          rw [hxv] at cg
          have b1 := BX2.cell 0
          have b2 := BX2.cell 1
          have HXV := Lib.hid hxv
          have hxl := LT x (by simp)
          clear hxv
          go_wp2_with fail
          clear b1 b2 s0' s1
          generalize w2 = Wy at *
          have b2 : Wy.cell? ⟨wr.heap.size, 1, none⟩ = some (.int .i64 (c : Int)) := BX2.cell 1
          have hKp : Kept [(g, m.length * 3 + 2, .slice Ax x.h.ls.length cx), (wr.heap.size, 1, .int .i64 (c : Int))] Wy := fun y hy => by
            simp only [List.mem_cons, List.not_mem_nil, or_false] at hy
            rcases hy with rfl | rfl
            · exact cg
            · exact b2
          refine wp_region_mix 12 1 (Kept [(g, m.length * 3 + 2, .slice Ax x.h.ls.length cx), (wr.heap.size, 1, .int .i64 (c : Int))]) (by kernel_rfl) (by kernel_rfl) (fun _ _ h1 h2 => h1.below h2) hKp ?_
          intro ι F hne hF
          have cgF : ∀ i, (F i).cell? ⟨g, m.length * 3 + 2, none⟩ = some (.slice Ax x.h.ls.length cx) := fun i => hF i (g, m.length * 3 + 2, .slice Ax x.h.ls.length cx) (by simp)
          have b2F : ∀ i, (F i).cell? ⟨wr.heap.size, 1, none⟩ = some (.int .i64 (c : Int)) := fun i => hF i (wr.heap.size, 1, .int .i64 (c : Int)) (by simp)
          have q0 : (0 : Int) ≤ (to_ : Int) := by omega
          obtain ⟨te, hte⟩ : ∃ te, to_ + c = te := ⟨_, rfl⟩
          have q1 : (to_ : Int) ≤ (te : Int) := by omega
          have q2 : (te : Int) ≤ (cb : Int) := by omega
          have q3 : (0 : Int) ≤ (te : Int) := by omega
          have w1q : IntKind.i64.wrap ((to_ : Int) + (c : Int)) = (te : Int) := by rw [IntWalk.i64_in _ (by omega)]; omega
          have HTE := Lib.hid hte
          have hcbt : ¬ cb = to_ := by omega
          have hcbt2 : ¬ cb - to_ = 0 := by omega
          clear hte
          simp only [List.take_succ_cons, List.take_zero, List.drop_succ_cons, List.drop_zero]
          repeat (refine wpB_step (fun K hK => ?_); go_simp; first | (refine hK _ ?_; clear hK K) | (apply Exists.intro; refine ⟨fun _ => ?_, hK _ ?_⟩; (fail); clear hK K))
          refine wpB_nil ?_
          intro w2 hw2 hI2
          clear cgF b2F hF
          have hbw : Below w.heap.size w w2 := bstep (bstep HB1 BE) hw2
          have ho2 := (RO.1 x (by simp)).below hw2
          rw [HXV.out] at ho2
          have hte2 := HTE.out
          have hnl : ((b.drop to_).take c).length = te - to_ := by rw [List.length_take, List.length_drop]; omega
          have hrn : Reads w2 w.heap.size 1 (some ⟨b0, o0 + to_, none⟩) (te - to_) (((b.drop to_).take c).map .string) := by
            refine ⟨by rw [List.length_map, hnl, Nat.mul_one], fun hp => ⟨_, rfl, hb0, fun q u hu => ?_⟩⟩
            rw [add_plain, Nat.add_assoc]
            rw [List.getElem?_map, List.getElem?_take] at hu
            have hq : q < c := by
              rcases Nat.lt_or_ge q c with h | h
              · exact h
              · rw [if_neg (by omega)] at hu; cases hu
            rw [if_pos hq, List.getElem?_drop] at hu
            exact (hbw.cell (p := ⟨b0, o0 + (to_ + q), none⟩) hb0).trans (HCE.out (to_ + q) u (by rw [List.getElem?_map]; exact hu))
          have BXs := BX2
          have OW2 := own_below OW hw2
          have RO2 := RO.below hw2
          have BE2 := bstep BE hw2
          have BX3 := BX2.below hw2 BX2.lt
          have hgx : offBlock x.v = none ∨ offBlock x.v ≠ some g := by have h9 := RO.apart OW (by decide) x (by simp); simpa [Value.ownBlock] using h9
          obtain ⟨iS, hi, hz0, hz1, hz2⟩ := info_parts string_info
          refine wpR_append_off _ rfl (.tmp 58) (.tmp 65) _ rfl w1.heap.size 9 iS _ 1 16 Try.underlying24 hi hz0 hz1 hz2 rfl (by decide) (.slice Ax x.h.ls.length cx) x.h.ls.length (linesOf x) rfl ho2 _ (some ⟨b0, o0 + to_, none⟩) (te - to_) _ (((b.drop to_).take c).map .string) rfl hrn (by intro u hu; obtain ⟨z, _, rfl⟩ := List.mem_map.1 hu; rfl) (by omega) (by unfold maxLen; omega) (by omega) BE2.size ?_
          intro v' w3 ho3 hg3 hat3
          rw [← HXV.out] at hg3 hat3
          refine ⟨hI2.grown hg3 (fun y hy => by
            simp only [List.mem_cons, List.not_mem_nil, or_false] at hy
            rcases hy with rfl | rfl
            · rcases hgx with h | h
              · rw [h]; simp
              · exact Ne.symm h
            · exact Ne.symm (off_blk_ne (RO2.1 x (by simp)) BX3 (by decide))), ?_⟩
          intro w4 hw4 hI4
          refine wpR_nil ?_
          have ho3' : OffRow w3 w1.heap.size 9 1 v' (x.h.ls ++ (b.drop to_).take c).length (linesOf ⟨⟨x.h.lo, x.h.hi, x.h.ls ++ (b.drop to_).take c⟩, v'⟩) := by
            unfold linesOf
            rw [List.length_append, hnl, List.map_append]
            exact ho3
          have RO3 := RO2.more (x' := ⟨⟨x.h.lo, x.h.hi, x.h.ls ++ (b.drop to_).take c⟩, v'⟩) hg3 ho3' hat3
          have RO4 := RO3.below hw4
          have OW3 := OW2.kept hg3 (by
            right
            rcases hgx with h | h
            · rw [h]; simp [Value.ownBlock]
            · simpa [Value.ownBlock] using Ne.symm h)
          have OW4 := own_below OW3 hw4
          have BX4 := (BX3.grown hg3 (Ne.symm (off_blk_ne (RO2.1 x (by simp)) BX3 (by decide)))).below hw4 (BX3.grown hg3 (Ne.symm (off_blk_ne (RO2.1 x (by simp)) BX3 (by decide)))).lt
          have BE4 := (BE2.grown hg3 BE2.size (fun q hq => ((RO2.1 x (by simp)).lt q hq).1)).trans (hw4.mono (Nat.le_trans BE2.size hg3.size))
          have cg4 := hv_cell OW4 2 (by decide) x.v rfl
          rw [HXV.out] at cg4
          have cf4 := OW4.frozenAt (m.length * 3 + 2)
          have b24 : w4.cell? ⟨wr.heap.size, 1, none⟩ = some (.int .i64 (c : Int)) := BX4.cell 1
          obtain ⟨A', c', rfl, hl', hc'⟩ := off_slice ho3'
          clear ho3 hg3 hat3 hI2 hI4 hw4 hw2 hrn ho2 cg cf b2 hKp hbw RO2 RO3 OW3 OW2 BX3 BX2 BXs BE2 hne
          have hgbx : g ≠ wr.heap.size := by obtain ⟨cs9, h9⟩ := own_block_hunk OW4; exact Blk.ne_ h9 BX4 (by decide)
          go_wp2_with fail
          have elen : (x.h.ls ++ (b.drop to_).take c).length = x.h.ls.length + (te - to_) := by rw [List.length_append, hnl]
          have ete : te = to_ + c := hte2.symm
          have hok4 := (ok_rep3 c _ _ _ hok).2
          rw [List.drop_drop, ← ete] at hok4
          refine ⟨⟨j + 1, at_, te, false, m ++ [⟨⟨x.h.lo, x.h.hi, x.h.ls ++ (b.drop to_).take c⟩, .slice A' (x.h.ls ++ (b.drop to_).take c).length c'⟩], by go_num, rfl, rfl, rfl, ?_⟩, by simp [intOf]; omega⟩
          rw [← elen]
          have hmx : ∀ y ∈ m ++ [(⟨⟨x.h.lo, x.h.hi, x.h.ls ++ (b.drop to_).take c⟩, .slice A' (x.h.ls ++ (b.drop to_).take c).length c'⟩ : HV)], y.h.ls.length ≤ te := fun y hy => by
            rcases List.mem_append.1 hy with hy | hy
            · have := LT y (List.mem_append.2 (.inl hy)); omega
            · rw [List.mem_singleton] at hy; subst hy
              show (x.h.ls ++ (b.drop to_).take c).length ≤ te
              omega
          refine ⟨hlt, ?_, hok4, l1, by omega, by simp; omega, hmx, fun _ => by simp, ?_, BE4.setCell (p := ⟨g, m.length * 3 + 2, none⟩) hgb _, ?_⟩
          · rw [HF.out]
            unfold hstep
            rw [if_neg (show ¬ ((3 : Nat) = 1) by decide), if_neg (show ¬ ((3 : Nat) = 2) by decide), PU.out, List.map_append, List.map_append]
            simp only [List.map_cons, List.map_nil]
            rw [setLast_snoc, ete]
          · have := hv_set (x' := ⟨⟨x.h.lo, x.h.hi, x.h.ls ++ (b.drop to_).take c⟩, .slice A' (x.h.ls ++ (b.drop to_).take c).length c'⟩) OW4 2 (by decide) (.slice A' (x.h.ls ++ (b.drop to_).take c).length c') rfl
            simpa using this
          · exact RO4.kept (grown_set _ ⟨g, m.length * 3 + 2, none⟩ _) (by
              have := RO4.apart OW4 (by decide)
              simpa [Value.ownBlock] using this)
    · obtain rfl : j = ss.length := by omega
      have HF := Lib.hid H.fo
      have HW := Lib.hid H.ow
      have HL := Lib.hid H.lo
      have HBE := Lib.hid H.be
      have HLL := H.ll
      obtain ⟨A5, c5, rfl, hA5, hc5⟩ := own_slice H.ow
      clear H
      go_wp2_with fail
      go_ret
      refine ⟨_, l, rfl, ?_, own_low2 HW.out HB1.size, fun x hx => off_low (HL.out.1 x hx) HB1.size, by omega, bstep HB1 HBE.out⟩
      rw [HU.out]
      have := HF.out
      rw [List.take_length] at this
      rw [this]
end Go.Proofs.Ytpgjjnbepkofdaa
