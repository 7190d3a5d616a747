/-
  The walk of the history's make: an edit is checked, a group is opened where none is, the edit and its inverse are put into it, and the text is changed.
-/
import Derived.Test.YtegobmlbldabbaaHistQ
import Derived.Deep.DeepCutAuto
namespace Go.Proofs.Ytegobmlbldabbaa
open Go.RowKit
set_option linter.unusedVariables false

set_option maxRecDepth 100000 in
set_option maxHeartbeats 2000000 in
theorem check_gen (n p c : Nat) (put : ByteArray) (w : World) (hn : n ≤ 600) (hp : p ≤ 100000) (hc : c ≤ 100000) (hpu : put.size ≤ 100000) :
    Calls Try.prog 71 #[.int .i64 n, .agg #[.int .i64 p, .int .i64 c, .string put]] w fun e w' => e = .returned (.int .i64 (chk n ⟨p, c, put⟩ : Int)) ∧ Below w.heap.size w w' := by
  by_cases h1 : p + c ≤ n
  · by_cases h2 : n - c + put.size ≤ 600
    · have e : chk n ⟨p, c, put⟩ = 0 := by unfold chk; rw [if_neg (by simp; omega), if_neg (by simp; omega)]
      rw [e]
      exact check_any n p c put w h1 hn h2
    · have e : chk n ⟨p, c, put⟩ = 1 := by unfold chk; rw [if_neg (by simp; omega), if_pos (by simp; omega)]
      rw [e]
      clear e
      go_enter Try.func71, Try.ntmps71
      go_wp2
      go_ret
      exact ⟨rfl, (Below.refl _ _).alloc (Nat.le_refl _) _⟩
  · have e : chk n ⟨p, c, put⟩ = 2 := by unfold chk; rw [if_pos (by simp; omega)]
    rw [e]
    clear e
    by_cases h3 : p ≤ n
    · go_enter Try.func71, Try.ntmps71
      go_wp2
      go_ret
      exact ⟨rfl, (Below.refl _ _).alloc (Nat.le_refl _) _⟩
    · go_enter Try.func71, Try.ntmps71
      go_wp2
      go_ret
      exact ⟨rfl, (Below.refl _ _).alloc (Nat.le_refl _) _⟩
set_option maxRecDepth 100000 in
set_option maxHeartbeats 2000000 in
theorem make_bad (R : Nat) (t : ByteArray) (c1 c2 c3 : Value) (p c : Nat) (put : ByteArray) (w : World) (hb : Blk w R 153 #[.string t, c1, c2, c3]) (ht : t.size ≤ 600) (hp : p ≤ 100000) (hc : c ≤ 100000) (hpu : put.size ≤ 100000) (hch : chk t.size ⟨p, c, put⟩ ≠ 0) :
    Calls Try.prog 99 #[.pointer (some ⟨R, 0, none⟩), .agg #[.int .i64 p, .int .i64 c, .string put]] w fun e w' => e = .returned (.int .i64 (chk t.size ⟨p, c, put⟩ : Int)) ∧ Below w.heap.size w w' := by
  have hc0 : w.cell? ⟨R, 0, none⟩ = some (.string t) := by rw [hb.cell]; rfl
  have hRl := hb.lt
  have T1 := Three.new w (.int .i64 (p : Int)) (.int .i64 (c : Int)) (.string put) 34
  have hb1 := hb.alloc (.cells #[.int .i64 (p : Int), .int .i64 (c : Int), .string put] 34)
  have HC := Lib.hid (fun W => check_gen t.size p c put W ht hp hc hpu)
  have hne : ((chk t.size ⟨p, c, put⟩ : Nat) : Int) ≠ 0 := by omega
  have hle : chk t.size ⟨p, c, put⟩ ≤ 2 := by
    unfold chk
    split
    · omega
    · split <;> omega
  clear hb hch
  generalize chk t.size ⟨p, c, put⟩ = k at *
  go_enter Try.func99, Try.ntmps99
  go_wp2_with fail
  have hbl : Below w.heap.size w (w.alloc (.cells #[.int .i64 (p : Int), .int .i64 (c : Int), .string put] 34)) := (Below.refl _ _).alloc (Nat.le_refl _) _
  generalize w.alloc (.cells #[.int .i64 (p : Int), .int .i64 (c : Int), .string put] 34) = W at *
  have hk : decide ((k : Int) = 0) = false := by simpa using hne
  refine wp_region_below (by kernel_rfl) (by kernel_rfl) ?_
  intro ι F hne' hF hG
  have t0F : ∀ i, (F i).cell? ⟨w.heap.size, 0, none⟩ = some (.int .i64 (p : Int)) := fun i => (T1.later (hF i)).2.1
  have t1F : ∀ i, (F i).cell? ⟨w.heap.size, 1, none⟩ = some (.int .i64 (c : Int)) := fun i => (T1.later (hF i)).2.2.1
  have t2F : ∀ i, (F i).cell? ⟨w.heap.size, 2, none⟩ = some (.string put) := fun i => (T1.later (hF i)).2.2.2
  have r0F : ∀ i, (F i).cell? ⟨R, 0, none⟩ = some (.string t) := fun i => by rw [(hb1.below (hF i) hb1.lt).cell]; rfl
  repeat go_big_quiet_step (first | ((with_reducible refine (HC.out _).mono ?_); rintro e w1 ⟨rfl, hb⟩; exact ⟨rfl, hG _ _ hb⟩) | fail)
  refine wpQuiet_nil ?_
  intro wq hw'
  obtain ⟨nq, rfl⟩ := hw'
  have hbq := hF nq
  generalize F nq = wq at *
  clear t0F t1F t2F r0F hF hG
  go_wp2_with fail
  refine bodyPost_ret (v := .int .i64 (k : Int)) (by simp [results, Try.results99, go_sem]) rfl ⟨rfl, ?_⟩
  exact hbl.trans (hbq.mono hbl.size)
section
variable {P : Program} {I : World → Prop}
theorem wpR_append_any {w : World} {ops : Array Oper} {Q : Exit → Act → World → Prop} {tail r : List Oper} {o : Oper} {a : Act} (hgd : o.guard = none) (s x : Operand) (t : TypeId)
    (ho : o.op = .call { callee := .builtin .append, args := #[s, x], argTypes := #[t, t] })
    (base : Nat) (e : TypeId) (z : Value) (size bytes : Nat) (ht : P.underlying t = some (.slice e)) (hi : (P.info? e).map (fun i => (i.zero, i.size, i.bytes)) = some (some z, size, bytes)) (hzs : z.cells.size = size) (hsz : 0 < size)
    (v : Value) (n : Nat) (xs : List Value) (hs : a.eval s = v) (hown : w.ownsRow base e size v n xs)
    (B : Nat) (A : Option Addr) (m c : Nat) (news : List Value) (hx : a.eval x = .slice A m c) (hr : Reads w B size A m news) (h1 : ∀ u ∈ news, u.oneCell' = true)
    (h63 : n + m ≤ maxLen) (hbytes : (n + m) * bytes ≤ 140737488355328) (hbase : base ≤ w.heap.size)
    (h : ∀ v' w', w'.ownsRow base e size v' (n + m) (xs ++ news) → w.grownBy w' v.ownBlock → (v'.ownBlock = v.ownBlock ∨ v'.ownBlock = some w.heap.size) → I w' ∧ ∀ w2, Below w'.heap.size w' w2 → I w2 → wpR P ops I Q tail r (a.put o.dst v') w2) : wpR P ops I Q tail (o :: r) a w := by
  obtain ⟨i, hi0, hz0, hzz, hzb⟩ := info_parts hi
  obtain ⟨v', w', hrun, h2, h3, h4⟩ := run_append_any (P := P) w base t o.type e i z size bytes ht hi0 hz0 hzz hzb hzs hsz v n xs hown B A m c news hr h1 h63 hbytes hbase
  have hw : Region.wanted o (yielded ops a.tmps) = true := by simp [Region.wanted, hgd]
  unfold wpR ROp
  rw [if_pos hw]
  unfold execOp
  simp only [ho, resolve, invoke, builtin, Sem.run_bind, Sem.run_pure, Result.andThen_ok, List.map_toArray, List.map_cons, List.map_nil, hs, hx, hrun, RUpon]
  exact h v' w' h2 h3 h4
end
theorem below_trans2 {B : Nat} {a b c : World} (h : Below a.heap.size a b) (k : Below B b c) (hB : B ≤ a.heap.size) : Below B a c := (h.mono hB).trans k
def MakePost (B R : Nat) (t : ByteArray) (l : List Grp) (d : Ed) (w : World) (e : Ending) (w' : World) : Prop :=
  e = .returned (.int .i64 0) ∧ Below B w w' ∧ TK w w' ∧ ∃ M' vu' us', HMp w' B R M' (mk t d) vu' (.slice none 0 0) us' [] true true ∧ us'.map GE.g = addTo l d (unmk t d)
/-- Where a group is open: what the way into 'if' and the way past it have in common. -/
def OPC (w0 : World) (B R g : Nat) (t : ByteArray) (vr : Value) (rs : List GE) (l : List Grp) (wc : World) : Prop :=
  ∃ M vu i x, HMp wc B R M t vu vr (i ++ [x]) rs true true ∧ (i ++ [x]).map GE.g = l ∧ x.d.ownBlock ≠ some g ∧ x.b.ownBlock ≠ some g ∧ w0.heap.size ≤ wc.heap.size ∧ Below B w0 wc ∧ TK w0 wc
set_option maxRecDepth 100000 in
set_option maxHeartbeats 4000000 in
theorem make_ok (B R M : Nat) (t : ByteArray) (vu vr : Value) (us rs : List GE) (f : Bool) (p c : Nat) (put : ByteArray) (w : World) (h : HMp w B R M t vu vr us rs f f) (hf : f = true → us ≠ []) (hl : us.length ≤ 20) (hg : ∀ x ∈ us, x.g.done.length ≤ 100 ∧ x.g.back.length ≤ 100)
    (ht : t.size ≤ 600) (hch : chk t.size ⟨p, c, put⟩ = 0) :
    Calls Try.prog 99 #[.pointer (some ⟨R, 0, none⟩), .agg #[.int .i64 p, .int .i64 c, .string put]] w (MakePost B R t (if f then us.map GE.g else trim (us.map GE.g ++ [⟨[], []⟩])) ⟨p, c, put⟩ w) := by
  generalize hLL : (if f then us.map GE.g else trim (us.map GE.g ++ [⟨[], []⟩])) = LL
  have HLL := Lib.hid hLL
  clear hLL
  have hok := chk_ok hch
  simp only at hok
  have hb := h.hist
  have hBR := h.rb
  have hBs := Nat.le_trans h.mb h.ms
  have hc0 : w.cell? ⟨R, 0, none⟩ = some (.string t) := by rw [hb.cell]; rfl
  have hRl := hb.lt
  have T1 := Three.new w (.int .i64 (p : Int)) (.int .i64 (c : Int)) (.string put) 34
  have E1 := Blk.new w 34 #[.int .i64 (p : Int), .int .i64 (c : Int), .string put]
  have HC := Lib.hid (fun W => check_any t.size p c put W hok.1 ht hok.2)
  have hbl : Below w.heap.size w (w.alloc (.cells #[.int .i64 (p : Int), .int .i64 (c : Int), .string put] 34)) := (Below.refl _ _).alloc (Nat.le_refl _) _
  have hsz : (w.alloc (.cells #[.int .i64 (p : Int), .int .i64 (c : Int), .string put] 34)).heap.size = w.heap.size + 1 := by simp
  have h1 := h.below hbl
  have hlt0 : ∀ g, (∃ x ∈ us, x.d.ownBlock = some g ∨ x.b.ownBlock = some g) → g < w.heap.size := by
    rintro g ⟨x, hx, hg⟩
    have := h.all x (List.mem_append.2 (.inl hx))
    rcases hg with hg | hg
    · exact this.1.2 g hg
    · exact this.2.2 g hg
  have H1 := Lib.hid h1
  have HLT := Lib.hid hlt0
  have HUL := Lib.hid (fun k e => (h.un.lt k e).2)
  have HBL := Lib.hid hbl
  clear hch h hb h1 hbl hlt0
  go_enter Try.func99, Try.ntmps99
  go_wp2_with fail
  generalize w.alloc (.cells #[.int .i64 (p : Int), .int .i64 (c : Int), .string put] 34) = W at *
  refine wp_region_below (by kernel_rfl) (by kernel_rfl) ?_
  intro ι F hne' hF hG
  have t0F : ∀ i, (F i).cell? ⟨w.heap.size, 0, none⟩ = some (.int .i64 (p : Int)) := fun i => (T1.later (hF i)).2.1
  have t1F : ∀ i, (F i).cell? ⟨w.heap.size, 1, none⟩ = some (.int .i64 (c : Int)) := fun i => (T1.later (hF i)).2.2.1
  have t2F : ∀ i, (F i).cell? ⟨w.heap.size, 2, none⟩ = some (.string put) := fun i => (T1.later (hF i)).2.2.2
  have r0F : ∀ i, (F i).cell? ⟨R, 0, none⟩ = some (.string t) := fun i => by rw [(H1.out.hist.below (hF i) H1.out.hist.lt).cell]; rfl
  repeat go_big_quiet_step (first | ((with_reducible refine (HC.out _).mono ?_); rintro e w1 ⟨rfl, hb⟩; exact ⟨rfl, hG _ _ hb⟩) | fail)
  refine wpQuiet_nil ?_
  intro wq hw'
  obtain ⟨nq, rfl⟩ := hw'
  have hbq := hF nq
  generalize F nq = wq at *
  clear t0F t1F t2F r0F hF hG hne' hc0
  have T2 := E1.below hbq E1.lt
  have h2 := H1.out.below hbq
  have hb2 := HBL.out.trans (hbq.mono HBL.out.size)
  have hsz2 := hbq.size
  clear H1 HBL hbq T1 E1 HC
  have c3 : wq.cell? ⟨R, 3, none⟩ = some (.bool f) := by rw [h2.hist.cell]; rfl
  go_upto_if 21 with fail
  go_cut [4] (fun s4 wc => s4 = .int .i64 0 ∧ OPC wq B R w.heap.size t vr rs (if f then us.map GE.g else trim (us.map GE.g ++ [⟨[], []⟩])) wc ∧ Blk wc w.heap.size 34 #[.int .i64 (p : Int), .int .i64 (c : Int), .string put])
  case first =>
    cases f with
    | true =>
      go_wp2_with fail
      go_meet
      case rel =>
        obtain ⟨i, x, rfl, _⟩ := h2.op rfl
        exact ⟨rfl, ⟨M, vu, i, x, h2, rfl, fun e => Nat.lt_irrefl _ (HLT.out _ ⟨x, by simp, .inl e⟩), fun e => Nat.lt_irrefl _ (HLT.out _ ⟨x, by simp, .inr e⟩), Nat.le_refl _, Below.refl _ _, TK.refl _⟩, T2⟩
    | false =>
      have hq := h2.toQ
      obtain ⟨A, cap, rfl, k1, k2⟩ := off_slice hq.un
      have c1 : wq.cell? ⟨R, 1, none⟩ = some (.slice A us.length cap) := by rw [h2.hist.cell]; rfl
      have f1 := h2.hist.frozen 1
      have HQ0 := Lib.hid hq
      have HB2 := Lib.hid hb2
      have hq1 := hq.below ((Below.refl _ _).alloc (Nat.le_refl _) (.cells #[.slice none 0 0, .slice none 0 0] 173))
      have hrd := Reads.new wq [.slice none 0 0, .slice none 0 0] 173 2 rfl
      have hBs2 : B ≤ wq.heap.size := by omega
      obtain ⟨i0, hi, hz0, hz1, hz2⟩ := info_parts group_info
      clear h2 hb2
      go_wp2_with (at_builtin; refine wpList_append_off _ rfl (.tmp 26) (.tmp 28) _ rfl B 173 i0 _ 2 48 Try.underlying151 hi hz0 hz1 hz2 rfl (by decide) _ us.length (cellsOf gc us) rfl hq1.un _ (some ⟨wq.heap.size, 0, none⟩) 1 1 [.slice none 0 0, .slice none 0 0] rfl hrd (by simp [Value.oneCell']) (by decide) (by unfold maxLen; omega) (by omega) (by simp; omega) ?_)
      intro v4 w4 ho4 hg4 hat4
      have hq4 := hq1.push (x := ⟨.slice none 0 0, .slice none 0 0, ⟨[], []⟩⟩) hg4 ho4 (by simpa using hat4) ⟨⟨World.ownsRow_nil _ _ _ _, by simp [Value.ownBlock]⟩, ⟨World.ownsRow_nil _ _ _ _, by simp [Value.ownBlock]⟩⟩
      have T4 := (T2.alloc (.cells #[.slice none 0 0, .slice none 0 0] 173)).grown hg4 (fun e => by have := HUL.out _ e.symm; omega)
      have hb4 : Below B wq w4 := (((Below.refl wq.heap.size wq).alloc (Nat.le_refl _) (.cells #[.slice none 0 0, .slice none 0 0] 173)).mono hBs2).grown hg4 (by simp; omega) (fun g e => (hq.un.lt g e).1)
      have hk4 : TK wq w4 := (TK.below ((Below.refl wq.heap.size wq).alloc (Nat.le_refl _) (.cells #[.slice none 0 0, .slice none 0 0] 173))).trans (TK.off hq1.un hg4)
      have HK4 := Lib.hid hk4
      have hs4 := hg4.size
      simp only [World.size_alloc] at hs4
      obtain ⟨A4, cap4, rfl, k41, k42⟩ := off_slice ho4
      unfold maxLen at k42
      have hR4 := hq4.hist
      have c14 : w4.cell? ⟨R, 1, none⟩ = some (.slice A us.length cap) := by rw [hR4.cell]; rfl
      have c34 : w4.cell? ⟨R, 3, none⟩ = some (.bool false) := by rw [hR4.cell]; rfl
      have f14 := hR4.frozen 1
      have f34 := hR4.frozen 3
      have HR4 := Lib.hid hR4
      have HQ4 := Lib.hid hq4
      have HT4 := Lib.hid T4
      have HB4 := Lib.hid hb4
      have HO4 := Lib.hid ho4
      have hR4l := hR4.lt
      clear hR4 hq4 T4 hb4 hk4 hg4 hat4 hq1 hrd hq hi hz0 hz1 hz2 c1 f1 c3 T2 HQ0
      by_cases h20 : us.length < 20
      · have hgt : decide ((20 : Int) < (us.length : Int) + 1) = false := by simp; omega
        clear ho4
        go_wp2_with fail
        go_meet
        case rel =>
          have hg5 : w4.grownBy ((w4.setCell ⟨R, 1, none⟩ (.slice A4 (us.length + 1) cap4)).setCell ⟨R, 3, none⟩ (.bool true)) (some R) := (grown_set _ ⟨R, 1, none⟩ _).trans (grown_set _ ⟨R, 3, none⟩ _)
          have h5 := (HQ4.out.rehist hg5 ((HR4.out.set_ 1 _).set_ 3 _)).toOpen
          refine ⟨rfl, ⟨_, _, us, _, h5, ?_, by simp [Value.ownBlock], by simp [Value.ownBlock], by simp; omega, ?_, HK4.out.trans (TK.hist HR4.out hg5)⟩, HT4.out.grown hg5 (by intro e; injection e with e; omega)⟩
          · simp only [Bool.false_eq_true, if_false, trim]
            rw [if_neg (by simp; omega)]
            simp
          · exact (HB4.out.setCell (by exact hBR) _).setCell (by exact hBR) _
      · have h20' : us.length = 20 := by omega
        have hgt : decide ((20 : Int) < (us.length : Int) + 1) = true := by simp; omega
        obtain ⟨gb, o, cap', hv', _, _, _, _, hob, _, _⟩ := ho4.form (by omega)
        injection hv' with e1 e2 e3
        subst e1 e3
        clear ho4
        go_wp2_with fail
        go_meet
        case rel =>
          obtain ⟨u0, ur, rfl⟩ : ∃ a b, us = a :: b := by
            cases us with
            | nil => simp at h20'
            | cons a b => exact ⟨a, b, rfl⟩
          have hlr : ur.length = 19 := by simpa using h20'
          have hg5 : w4.grownBy (((w4.setCell ⟨R, 1, none⟩ (.slice (some ⟨gb, o, none⟩) 21 cap4)).setCell ⟨R, 1, none⟩ (.slice (some ⟨gb, o + 2, none⟩) 20 (cap4 - 1))).setCell ⟨R, 3, none⟩ (.bool true)) (some R) := ((grown_set _ ⟨R, 1, none⟩ _).trans (grown_set _ ⟨R, 1, none⟩ _)).trans (grown_set _ ⟨R, 3, none⟩ _)
          have hq5 := HQ4.out.rehist hg5 (((HR4.out.set_ 1 _).set_ 1 _).set_ 3 _)
          have hu := hq5.un
          have e21 : (u0 :: ur).length + 1 = 21 := by simp; omega
          have e21' : ((u0 :: ur) ++ [(⟨.slice none 0 0, .slice none 0 0, ⟨[], []⟩⟩ : GE)]).length = 21 := by simp; omega
          rw [e21, e21'] at hu
          have hd := hu.drop (k := 1) (by omega)
          rw [if_neg (by omega)] at hd
          have h5 := (hq5.fewer (v := .slice (some ⟨gb, o + 2, none⟩) 20 (cap4 - 1)) (l := ur ++ [⟨.slice none 0 0, .slice none 0 0, ⟨[], []⟩⟩]) (by rw [List.length_append, hlr]; exact hd) (by
            intro g e
            rw [offBlock_some _ _ _ (by omega)] at e
            rw [e21, offBlock_some _ _ _ (by omega)]; exact e) (by intro y hy; simp at hy ⊢; rcases hy with hy | hy <;> simp [hy])).toOpen
          refine ⟨rfl, ⟨_, _, ur, _, h5, ?_, by simp [Value.ownBlock], by simp [Value.ownBlock], by simp; omega, ?_, HK4.out.trans (TK.hist HR4.out hg5)⟩, HT4.out.grown hg5 (by intro e; injection e with e; omega)⟩
          · simp only [Bool.false_eq_true, if_false, trim]
            rw [if_pos (by simp; omega)]
            simp
          · exact ((HB4.out.setCell (by exact hBR) _).setCell (by exact hBR) _).setCell (by exact hBR) _
  case rest =>
    obtain ⟨rfl, ⟨M', vu', i, x, h3, hmap, hx1, hx2, hs3, hb3, hk3⟩, T3⟩ := hcut
    have hb4 := below_trans2 hb2 hb3 hBs
    have htk := (TK.below hb2).trans hk3
    have HTK := Lib.hid htk
    clear htk hk3
    have hil : i.length ≤ 20 := by
      have := congrArg List.length hmap
      simp only [List.length_map, List.length_append, List.length_cons, List.length_nil] at this
      split at this
      · simp at this; omega
      · unfold trim at this; split at this <;> simp at this <;> omega
    have hxl : x.g.done.length ≤ 100 ∧ x.g.back.length ≤ 100 := by
      have hm : x.g ∈ (i ++ [x]).map GE.g := by simp
      rw [hmap] at hm
      split at hm
      · obtain ⟨y, hy, e⟩ := List.mem_map.1 hm
        rw [← e]; exact hg y hy
      · have hm2 : x.g ∈ us.map GE.g ++ [(⟨[], []⟩ : Grp)] := by
          unfold trim at hm
          split at hm
          · exact List.mem_of_mem_drop hm
          · exact hm
        rcases List.mem_append.1 hm2 with hm2 | hm2
        · obtain ⟨y, hy, e⟩ := List.mem_map.1 hm2
          rw [← e]; exact hg y hy
        · simp at hm2; rw [hm2]; simp
    have HMAP := Lib.hid hmap
    clear hmap h2 hb2 hb3 T2 HLT HUL c3 hg hl hf hsz hsz2
    have h3u := h3.un
    obtain ⟨gb, q, cap, rfl, hBg, hgl, hnc, hcm, hob, hcells, hfz⟩ := h3u.form (by simp)
    simp only [List.length_append, List.length_cons, List.length_nil, Nat.zero_add] at h3 hnc hob
    have hcn : (cellsOf gc (i ++ [x])).length = (i.length + 1) * 2 := by rw [cellsOf_len gc_len]; simp
    have x0 : wc.cell? ⟨gb, q + i.length * 2, none⟩ = some x.d := hcells (i.length * 2) x.d (by rw [cellsOf_snoc, List.getElem?_append_right (by rw [cellsOf_len gc_len]; omega), cellsOf_len gc_len, Nat.sub_self]; rfl)
    have c1 : wc.cell? ⟨R, 1, none⟩ = some (.slice (some ⟨gb, q, none⟩) (i.length + 1) cap) := by rw [h3.hist.cell]; rfl
    have c0 : wc.cell? ⟨R, 0, none⟩ = some (.string t) := by rw [h3.hist.cell]; rfl
    have hRl2 := h3.hist.lt
    have H3 := Lib.hid h3
    have HBB := Lib.hid hb4
    clear h3u hcells hb4 h3
    have HUD := Lib.hid (fun W => undo_any t p c put W hok.1 (by omega) (by omega))
    have HMD := Lib.hid (fun W => made_any t p c put W hok.1 (by omega) (by omega))
    go_wp2_with fail
    go_quiet (fail)
    go_wp2_with fail
    have hdr := below_drewN (Below.refl wc.heap.size wc) nq
    have h3 := H3.out.below hdr
    have T4 := T3.below hdr T3.lt
    have hb4 := HBB.out.trans (hdr.mono (Nat.le_trans hBg (Nat.le_of_lt hgl)))
    have hEl := T3.lt
    have htk := HTK.out.trans (TK.below hdr)
    clear hfz x0 c1 c0 H3 HBB T3 hdr HTK
    generalize wc.drewN nq = W1 at *
    have hgbl : gb < W1.heap.size := by have := (h3.un.lt gb hob).2; exact this
    have hRl3 := h3.hist.lt
    obtain ⟨i', x', e', a2, a3, a4⟩ := h3.op rfl
    have ei := List.append_inj' e' (by simp)
    obtain rfl : i = i' := ei.1
    obtain rfl : x = x' := by simpa using ei.2
    clear ei e'
    have hM : ∀ g, x.d.ownBlock = some g → M' ≤ g := fun g e => (a2.lt g e).1
    have hMB := h3.mb
    have hMs := h3.ms
    have hOb : some gb ≠ x.d.ownBlock := by
      rcases own_off_ne h3.un a2 with h1 | h1
      · rw [hob] at h1; cases h1
      · rwa [hob] at h1
    have hOR : some R ≠ x.d.ownBlock := Ne.symm (own_blk_ne a2 h3.hist (by decide))
    have hgE : gb ≠ w.heap.size := fun e => off_blk_ne h3.un T4 (by decide) (by rw [hob, e])
    have x0 : W1.cell? ⟨gb, q + i.length * 2, none⟩ = some x.d := by
      obtain ⟨gb', q', cap', hv', _, _, _, _, _, hcells, _⟩ := h3.un.form (by simp)
      injection hv' with e1 e2 e3
      injection e1 with e1
      injection e1 with e1 e4
      subst e1 e3 e4
      have := hcells (i.length * 2+ 0) x.d (by rw [cellsOf_snoc, List.getElem?_append_right (by rw [cellsOf_len gc_len]; omega), cellsOf_len gc_len]; rw [Nat.add_zero, Nat.sub_self]; rfl)
      simpa [Nat.add_assoc] using this
    have xfz : ∀ k, W1.frozen? ⟨gb, k, none⟩ = false := by
      obtain ⟨gb', q', cap', hv', _, _, _, _, _, _, hfz⟩ := h3.un.form (by simp)
      injection hv' with e1 e2 e3
      injection e1 with e1
      injection e1 with e1 e4
      subst e1
      exact hfz
    refine wp_region_mix 6 2 (fun w' => W1.grownBy w' x.d.ownBlock) (by kernel_rfl) (by kernel_rfl) (fun _ _ h1 h2 => h1.trans (grown_of_below h2 _)) (World.grownBy.refl _ _) ?_
    intro ι F hne' hF
    have g0F : ∀ k, (F k).cell? ⟨gb, q + i.length * 2, none⟩ = some x.d := fun k => (World.cell?_of_block (a := ⟨gb, q + i.length * 2, none⟩) ((hF k).block gb hgbl hOb)).trans x0
    have t0F : ∀ k, (F k).cell? ⟨w.heap.size, 0, none⟩ = some (.int .i64 (p : Int)) := fun k => by rw [(T4.grown (hF k) (Ne.symm hx1)).cell]; rfl
    have t1F : ∀ k, (F k).cell? ⟨w.heap.size, 1, none⟩ = some (.int .i64 (c : Int)) := fun k => by rw [(T4.grown (hF k) (Ne.symm hx1)).cell]; rfl
    have t2F : ∀ k, (F k).cell? ⟨w.heap.size, 2, none⟩ = some (.string put) := fun k => by rw [(T4.grown (hF k) (Ne.symm hx1)).cell]; rfl
    have r0F : ∀ k, (F k).cell? ⟨R, 0, none⟩ = some (.string t) := fun k => by rw [(h3.hist.grown (hF k) hOR).cell]; rfl
    simp only [List.take_succ_cons, List.take_zero, List.drop_succ_cons, List.drop_zero]
    repeat (refine wpB_step (fun K hK => ?_); go_simp; first | (refine hK _ ?_; clear hK K) | (apply Exists.intro; refine ⟨fun _ => ?_, hK _ ?_⟩; (fail); clear hK K))
    refine wpB_nil ?_
    intro w2 hw2 hI2
    clear g0F t0F t1F t2F r0F hF
    (refine wpR_step (fun K hK => ?_); go_simp; refine hK _ _ ⟨hI2.trans (World.grownBy_alloc w2 _ _), ?_⟩; clear hK K)
    intro w3 hw3 hI3
    have hb3 : Below W1.heap.size W1 w3 := bstep (hw2.alloc hw2.size _) hw3
    have ho3 := own_below a2 hb3
    have hr3 := (Reads.new w2 [.int .i64 (p : Int), .int .i64 (c : Int), .string put] 34 3 rfl).below hw3
    refine wpR_append_any rfl (.tmp 64) (.tmp 66) _ rfl M' 34 _ 3 32 Try.underlying46 edit_info rfl (by decide) _ x.g.done.length (edCells x.g.done) rfl ho3 _ (some ⟨w2.heap.size, 0, none⟩) 1 1 [.int .i64 (p : Int), .int .i64 (c : Int), .string put] rfl hr3 (by simp [Value.oneCell']) (by unfold maxLen; omega) (by omega) (Nat.le_trans hMs hb3.size) ?_
    intro v4 w4 ho4 hg4 hat4
    refine ⟨hI3.trans hg4, ?_⟩
    intro w5 hw5 hI5
    refine wpR_nil ?_
    have ho5 := own_below ho4 hw5
    have hat5 : v4.ownBlock = x.d.ownBlock ∨ ∀ k, v4.ownBlock = some k → W1.heap.size ≤ k := by
      rcases hat4 with h | h
      · exact .inl h
      · exact .inr fun k e => by rw [h] at e; injection e with e; have := hb3.size; omega
    have x5 : w5.cell? ⟨gb, q + i.length * 2, none⟩ = some x.d := (World.cell?_of_block (a := ⟨gb, q + i.length * 2, none⟩) (hI5.block gb hgbl hOb)).trans x0
    have xf5 : w5.frozen? ⟨gb, q + i.length * 2, none⟩ = false := (World.frozen?_of_block (a := ⟨gb, q + i.length * 2, none⟩) (hI5.block gb hgbl hOb)).trans (xfz _)
    have hgb5 : gb < w5.heap.size := Nat.lt_of_lt_of_le hgbl hI5.size
    have hh := h3.wrote0 (w4 := w5) rfl hI5 (v := v4) (es := (x.g.done ++ [⟨p, c, put⟩])) (by rw [edCells_snoc, List.length_append]; exact ho5) hat5
    have T5 := (T4.grown hI5 (Ne.symm hx1)).far (p := ⟨gb, q + i.length * 2, none⟩) (Ne.symm hgE) v4
    have hBW : B ≤ W1.heap.size := Nat.le_trans hMB hMs
    have hb5 := (hb4.grown hI5 hBW (fun g e => Nat.le_trans hMB (hM g e))).setCell (p := ⟨gb, q + i.length * 2, none⟩) hBg v4
    have hk5 := (htk.trans (TK.own a2 hI5)).trans (TK.offset (h3.un.kept hI5 (.inr (by rw [hob]; exact hOb))) hob (k := q + i.length * 2) v4)
    have hne5 : v4.ownBlock ≠ some w.heap.size := by
      rcases hat5 with h | h
      · rw [h]; exact hx1
      · intro e; have := h _ e; have := T4.lt; omega
    obtain ⟨A5, c5, rfl, hc5, hc6⟩ := own_slice ho5
    simp only [Nat.add_zero] at hh
    clear h3 T4 hb4 htk ho5 ho4 hg4 hat4 hat5 hw5 hI5 hI3 hw3 hr3 ho3 hb3 hI2 hw2 x0 xfz a2 a3 a4 hOb hOR hM hgbl hRl3
    have hx2' := hx2
    go_wp2_with fail
    have h3 := hh
    have T4 := T5
    have hb4 := hb5
    have htk := hk5
    clear hk5 hh T5 hb5 x5 xf5 hgb5
    generalize w5.setCell ⟨gb, q + i.length * 2, none⟩ (.slice A5 (x.g.done.length + 1) c5) = W1 at *
    generalize hy : (⟨.slice A5 (x.g.done.length + 1) c5, x.b, ⟨x.g.done ++ [⟨p, c, put⟩], x.g.back⟩⟩ : GE) = y at h3
    have hy1 : y.b.ownBlock ≠ some w.heap.size := by rw [← hy]; exact hx2
    have hyl : y.g.back.length ≤ 100 := by rw [← hy]; exact hxl.2
    have HY := Lib.hid hy
    clear hy hx1 hx2 hx2' hxl hne5 hc5 hc6
    have hgbl : gb < W1.heap.size := by have := (h3.un.lt gb hob).2; exact this
    have hRl3 := h3.hist.lt
    obtain ⟨i', x', e', a2, a3, a4⟩ := h3.op rfl
    have ei := List.append_inj' e' (by simp)
    obtain rfl : i = i' := ei.1
    obtain rfl : y = x' := by simpa using ei.2
    clear ei e'
    have hM : ∀ g, y.b.ownBlock = some g → M' ≤ g := fun g e => (a3.lt g e).1
    have hMB := h3.mb
    have hMs := h3.ms
    have hOb : some gb ≠ y.b.ownBlock := by
      rcases own_off_ne h3.un a3 with h1 | h1
      · rw [hob] at h1; cases h1
      · rwa [hob] at h1
    have hOR : some R ≠ y.b.ownBlock := Ne.symm (own_blk_ne a3 h3.hist (by decide))
    have hgE : gb ≠ w.heap.size := fun e => off_blk_ne h3.un T4 (by decide) (by rw [hob, e])
    have x0 : W1.cell? ⟨gb, q + i.length * 2+ 1, none⟩ = some y.b := by
      obtain ⟨gb', q', cap', hv', _, _, _, _, _, hcells, _⟩ := h3.un.form (by simp)
      injection hv' with e1 e2 e3
      injection e1 with e1
      injection e1 with e1 e4
      subst e1 e3 e4
      have := hcells (i.length * 2+ 1) y.b (by rw [cellsOf_snoc, List.getElem?_append_right (by rw [cellsOf_len gc_len]; omega), cellsOf_len gc_len]; rw [show i.length * 2 + 1 - i.length * 2 = 1 by omega]; rfl)
      simpa [Nat.add_assoc] using this
    have xfz : ∀ k, W1.frozen? ⟨gb, k, none⟩ = false := by
      obtain ⟨gb', q', cap', hv', _, _, _, _, _, _, hfz⟩ := h3.un.form (by simp)
      injection hv' with e1 e2 e3
      injection e1 with e1
      injection e1 with e1 e4
      subst e1
      exact hfz
    refine wp_region_mix 11 2 (fun w' => W1.grownBy w' y.b.ownBlock) (by kernel_rfl) (by kernel_rfl) (fun _ _ h1 h2 => h1.trans (grown_of_below h2 _)) (World.grownBy.refl _ _) ?_
    intro ι F hne' hF
    have g0F : ∀ k, (F k).cell? ⟨gb, q + i.length * 2+ 1, none⟩ = some y.b := fun k => (World.cell?_of_block (a := ⟨gb, q + i.length * 2+ 1, none⟩) ((hF k).block gb hgbl hOb)).trans x0
    have t0F : ∀ k, (F k).cell? ⟨w.heap.size, 0, none⟩ = some (.int .i64 (p : Int)) := fun k => by rw [(T4.grown (hF k) (Ne.symm hy1)).cell]; rfl
    have t1F : ∀ k, (F k).cell? ⟨w.heap.size, 1, none⟩ = some (.int .i64 (c : Int)) := fun k => by rw [(T4.grown (hF k) (Ne.symm hy1)).cell]; rfl
    have t2F : ∀ k, (F k).cell? ⟨w.heap.size, 2, none⟩ = some (.string put) := fun k => by rw [(T4.grown (hF k) (Ne.symm hy1)).cell]; rfl
    have r0F : ∀ k, (F k).cell? ⟨R, 0, none⟩ = some (.string t) := fun k => by rw [(h3.hist.grown (hF k) hOR).cell]; rfl
    simp only [List.take_succ_cons, List.take_zero, List.drop_succ_cons, List.drop_zero]
    repeat (refine wpB_step (fun K hK => ?_); go_simp; first | (refine hK _ ?_; clear hK K) | (apply Exists.intro; refine ⟨fun _ => ?_, hK _ ?_⟩; (first | ((with_reducible refine (HUD.out _).mono ?_); rintro e w1 ⟨rfl, hb⟩; exact ⟨rfl, hb⟩)); clear hK K))
    refine wpB_nil ?_
    intro w2 hw2 hI2
    clear g0F t0F t1F t2F r0F hF
    (refine wpR_step (fun K hK => ?_); go_simp; refine hK _ _ ⟨hI2.trans (World.grownBy_alloc w2 _ _), ?_⟩; clear hK K)
    intro w3 hw3 hI3
    have hb3 : Below W1.heap.size W1 w3 := bstep (hw2.alloc hw2.size _) hw3
    have ho3 := own_below a3 hb3
    have hr3 := (Reads.new w2 [.int .i64 (p : Int), .int .i64 (put.size : Int), .string (t.extract p (p + c))] 34 3 rfl).below hw3
    refine wpR_append_any rfl (.tmp 74) (.tmp 81) _ rfl M' 34 _ 3 32 Try.underlying46 edit_info rfl (by decide) _ y.g.back.length (edCells y.g.back) rfl ho3 _ (some ⟨w2.heap.size, 0, none⟩) 1 1 [.int .i64 (p : Int), .int .i64 (put.size : Int), .string (t.extract p (p + c))] rfl hr3 (by simp [Value.oneCell']) (by unfold maxLen; omega) (by omega) (Nat.le_trans hMs hb3.size) ?_
    intro v4 w4 ho4 hg4 hat4
    refine ⟨hI3.trans hg4, ?_⟩
    intro w5 hw5 hI5
    refine wpR_nil ?_
    have ho5 := own_below ho4 hw5
    have hat5 : v4.ownBlock = y.b.ownBlock ∨ ∀ k, v4.ownBlock = some k → W1.heap.size ≤ k := by
      rcases hat4 with h | h
      · exact .inl h
      · exact .inr fun k e => by rw [h] at e; injection e with e; have := hb3.size; omega
    have x5 : w5.cell? ⟨gb, q + i.length * 2+ 1, none⟩ = some y.b := (World.cell?_of_block (a := ⟨gb, q + i.length * 2+ 1, none⟩) (hI5.block gb hgbl hOb)).trans x0
    have xf5 : w5.frozen? ⟨gb, q + i.length * 2+ 1, none⟩ = false := (World.frozen?_of_block (a := ⟨gb, q + i.length * 2+ 1, none⟩) (hI5.block gb hgbl hOb)).trans (xfz _)
    have hgb5 : gb < w5.heap.size := Nat.lt_of_lt_of_le hgbl hI5.size
    have hh := h3.wrote1 (w4 := w5) rfl hI5 (v := v4) (es := (y.g.back ++ [unmk t ⟨p, c, put⟩])) (by rw [edCells_snoc, List.length_append]; exact ho5) hat5
    have T5 := (T4.grown hI5 (Ne.symm hy1)).far (p := ⟨gb, q + i.length * 2+ 1, none⟩) (Ne.symm hgE) v4
    have hBW : B ≤ W1.heap.size := Nat.le_trans hMB hMs
    have hb5 := (hb4.grown hI5 hBW (fun g e => Nat.le_trans hMB (hM g e))).setCell (p := ⟨gb, q + i.length * 2+ 1, none⟩) hBg v4
    have hk5 := (htk.trans (TK.own a3 hI5)).trans (TK.offset (h3.un.kept hI5 (.inr (by rw [hob]; exact hOb))) hob (k := q + i.length * 2+ 1) v4)
    have hne5 : v4.ownBlock ≠ some w.heap.size := by
      rcases hat5 with h | h
      · rw [h]; exact hy1
      · intro e; have := h _ e; have := T4.lt; omega
    obtain ⟨A5, c5, rfl, hc5, hc6⟩ := own_slice ho5
    simp only [← Nat.add_assoc] at hh
    clear h3 T4 hb4 htk ho5 ho4 hg4 hat4 hat5 hw5 hI5 hI3 hw3 hr3 ho3 hb3 hI2 hw2 x0 xfz a2 a3 a4 hOb hOR hM hgbl hRl3
    go_wp2_with fail
    have h3 := hh
    have T4 := T5
    have hb4 := hb5
    have htk := hk5
    clear hk5 hh T5 hb5 x5 xf5 hgb5
    generalize w5.setCell ⟨gb, q + i.length * 2 + 1, none⟩ (.slice A5 (y.g.back.length + 1) c5) = W1 at *
    clear hy1 hyl hMB hMs hgE hBW hne5 hc5 hc6
    have hRW := h3.hist.lt
    have hEW := T4.lt
    refine wp_region_mix 9 0 (fun w' => Below W1.heap.size W1 w') (by kernel_rfl) (by kernel_rfl) (fun _ _ h1 h2 => bstep h1 h2) (Below.refl _ _) ?_
    intro ι F hne' hF
    have t0F : ∀ k, (F k).cell? ⟨w.heap.size, 0, none⟩ = some (.int .i64 (p : Int)) := fun k => by rw [(T4.below (hF k) hEW).cell]; rfl
    have t1F : ∀ k, (F k).cell? ⟨w.heap.size, 1, none⟩ = some (.int .i64 (c : Int)) := fun k => by rw [(T4.below (hF k) hEW).cell]; rfl
    have t2F : ∀ k, (F k).cell? ⟨w.heap.size, 2, none⟩ = some (.string put) := fun k => by rw [(T4.below (hF k) hEW).cell]; rfl
    have r0F : ∀ k, (F k).cell? ⟨R, 0, none⟩ = some (.string t) := fun k => by rw [(h3.hist.below (hF k) hRW).cell]; rfl
    simp only [List.take_succ_cons, List.take_zero, List.drop_succ_cons, List.drop_zero]
    repeat (refine wpB_step (fun K hK => ?_); go_simp; first | (refine hK _ ?_; clear hK K) | (apply Exists.intro; refine ⟨fun _ => ?_, hK _ ?_⟩; (first | ((with_reducible refine (HMD.out _).mono ?_); rintro e w1 ⟨rfl, hb⟩; exact ⟨rfl, hb⟩)); clear hK K))
    refine wpB_nil ?_
    intro w2 hw2 hI2
    clear t0F t1F t2F r0F hF
    refine wpR_nil ?_
    have h5 := h3.below hI2
    have hR5 := h5.hist
    have hRW5 := hR5.lt
    have hb5 : Below B w w2 := hb4.trans (hI2.mono (Nat.le_trans h3.mb h3.ms))
    have c0 : w2.cell? ⟨R, 0, none⟩ = some (.string t) := by rw [hR5.cell]; rfl
    have c2 : w2.cell? ⟨R, 2, none⟩ = some vr := by rw [hR5.cell]; rfl
    have f0 := hR5.frozen 0
    have f2 := hR5.frozen 2
    have hg5 : w2.grownBy ((w2.setCell ⟨R, 0, none⟩ (.string (mk t ⟨p, c, put⟩))).setCell ⟨R, 2, none⟩ (.slice none 0 0)) (some R) := (grown_set _ ⟨R, 0, none⟩ _).trans (grown_set _ ⟨R, 2, none⟩ _)
    have h6 := h5.rehist (t' := mk t ⟨p, c, put⟩) (f' := true) (o' := true) (vu' := .slice (some ⟨gb, q, none⟩) (i.length + 1) cap) (vr' := .slice none 0 0) (us' := i ++ [⟨y.d, .slice A5 (y.g.back.length + 1) c5, ⟨y.g.done, y.g.back ++ [unmk t ⟨p, c, put⟩]⟩⟩]) (rs' := []) hg5 ((hR5.set_ 0 _).set_ 2 _) (fun hu _ => ⟨hu, OffRow.nil_ _ _ _ _⟩) (by intro g _; simp [offBlock]) (by intro z hz; simp at hz ⊢; rcases hz with hz | hz; exact .inl hz; exact .inr (.inl hz)) (by intro z hz; simp at hz ⊢; exact .inl hz) (fun _ => ⟨rfl, rfl⟩)
    have H6 := Lib.hid h6
    have HB6 := Lib.hid hb5
    have HK6 := Lib.hid ((htk.trans (TK.below hI2)).trans (TK.hist hR5 hg5))
    clear htk h6 hb5 h5 hR5 hb4 h3 T4 hg5
    go_wp2_with fail
    refine bodyPost_ret (v := .int .i64 0) (by simp [results, Try.results99, go_sem]) rfl ⟨rfl, (HB6.out.setCell (by exact hBR) _).setCell (by exact hBR) _, HK6.out, _, _, _, H6.out, ?_⟩
    rw [← HLL.out, ← HMAP.out, ← HY.out]
    simp only [List.map_append, List.map_cons, List.map_nil, addTo_snoc]
end Go.Proofs.Ytegobmlbldabbaa
