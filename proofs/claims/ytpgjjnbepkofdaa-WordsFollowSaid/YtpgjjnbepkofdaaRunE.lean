/-
  How lists of edits are told to a walk, and the walks of edit.run and edit.Apply. Nothing that was there is changed.
-/
import Derived.Test.YtpgjjnbepkofdaaEd
namespace Go.Proofs.Ytpgjjnbepkofdaa
open Go.RowKit
set_option linter.unusedVariables false

/-- The cells of a list of edits. -/
def edCells (es : List Ed) : List Value := es.flatMap fun e => [.int .i64 (e.p : Int), .int .i64 (e.c : Int), .string e.put]
theorem edCells_len (es : List Ed) : (edCells es).length = es.length * 3 := by
  induction es with
  | nil => rfl
  | cons e es ih => simp only [edCells, List.flatMap_cons, List.length_append, List.length_cons, List.length_nil] at *; omega
theorem edCells_snoc (es : List Ed) (e : Ed) : edCells (es ++ [e]) = edCells es ++ [.int .i64 (e.p : Int), .int .i64 (e.c : Int), .string e.put] := by simp [edCells]
theorem edCells_at (es : List Ed) (i : Nat) (hi : i < es.length) : (edCells es)[i * 3]? = some (.int .i64 (es[i].p : Int)) ∧ (edCells es)[i * 3 + 1]? = some (.int .i64 (es[i].c : Int)) ∧ (edCells es)[i * 3 + 2]? = some (.string es[i].put) := by
  induction es generalizing i with
  | nil => simp at hi
  | cons e es ih =>
    cases i with
    | zero => simp [edCells]
    | succ i =>
      have h := ih i (by simpa using hi)
      have e3 : ∀ k : Nat, (edCells (e :: es))[(i + 1) * 3 + k]? = (edCells es)[i * 3 + k]? := by
        intro k
        have : (i + 1) * 3 + k = (i * 3 + k) + 1 + 1 + 1 := by omega
        rw [this]; simp [edCells]
      have e0 := e3 0
      simp only [Nat.add_zero] at e0
      rw [e0, e3 1, e3 2]; simpa using h
theorem edCells_one (es : List Ed) : ∀ u ∈ edCells es, u.oneCell' = true := by
  intro u hu
  simp only [edCells, List.mem_flatMap, List.mem_cons, List.not_mem_nil, or_false] at hu
  obtain ⟨e, _, rfl | rfl | rfl⟩ := hu <;> rfl

/-- A slice of edits that reads as a list. -/
def EdRow (w : World) (v : Value) (es : List Ed) : Prop :=
  ∃ A c, v = .slice A es.length c ∧ es.length ≤ c ∧ c ≤ maxLen ∧ Reads w w.heap.size 3 A es.length (edCells es)
theorem EdRow.later {w w' : World} {v : Value} {es : List Ed} (h : EdRow w v es) (hb : Below w.heap.size w w') : EdRow w' v es := by
  obtain ⟨A, c, hv, hl, hc, hr⟩ := h
  exact ⟨A, c, hv, hl, hc, (hr.below hb).more hb.size⟩
theorem EdRow.of_own {w : World} {base : Nat} {e : TypeId} {v : Value} {es : List Ed} (h : w.ownsRow base e 3 v es.length (edCells es)) : EdRow w v es := by
  rcases h.2 with ⟨rfl, hn⟩ | ⟨g, cap, cur, rfl, hb, hh, hnc, hcm, hs, ht⟩
  · have : es = [] := List.length_eq_zero_iff.1 hn
    subst this
    exact ⟨none, 0, rfl, Nat.le_refl _, by decide, ⟨by simp [edCells], by simp⟩⟩
  · exact ⟨_, cap, rfl, hnc, hcm, Reads.of_own h⟩
theorem EdRow.at_ {w : World} {B : Nat} {A : Option Addr} {es : List Ed} (h : Reads w B 3 A es.length (edCells es)) {i : Nat} (hi : i < es.length) :
    ∃ b off, A = some ⟨b, off, none⟩ ∧ b < B ∧ w.cell? ⟨b, off + i * 3, none⟩ = some (.int .i64 (es[i].p : Int)) ∧ w.cell? ⟨b, off + i * 3 + 1, none⟩ = some (.int .i64 (es[i].c : Int)) ∧ w.cell? ⟨b, off + i * 3 + 2, none⟩ = some (.string es[i].put) := by
  obtain ⟨b, off, rfl, hb, hc⟩ := h.plain (by omega) (by omega)
  obtain ⟨h0, h1, h2⟩ := edCells_at es i hi
  exact ⟨b, off, rfl, hb, hc _ _ h0, by rw [Nat.add_assoc]; exact hc _ _ h1, by rw [Nat.add_assoc]; exact hc _ _ h2⟩

/-- Edits that may be made one behind the other, of a text of n bytes. -/
def vld : Nat → List Ed → Prop
  | _, [] => True
  | n, e :: l => e.p + e.c ≤ n ∧ e.c ≤ 12 ∧ e.put.size ≤ 8 ∧ vld (n + e.put.size - e.c) l
/-- The size behind edits. -/
def sized : Nat → List Ed → Nat
  | n, [] => n
  | n, e :: l => sized (n + e.put.size - e.c) l
theorem vld_snoc (l : List Ed) (e : Ed) : ∀ n, vld n (l ++ [e]) ↔ vld n l ∧ e.p + e.c ≤ sized n l ∧ e.c ≤ 12 ∧ e.put.size ≤ 8 := by
  induction l with
  | nil => intro n; simp [vld, sized]
  | cons d l ih => intro n; simp only [List.cons_append, vld, sized, ih, and_assoc]
theorem sized_snoc (l : List Ed) (e : Ed) : ∀ n, sized n (l ++ [e]) = sized n l + e.put.size - e.c := by
  induction l with
  | nil => intro n; rfl
  | cons d l ih => intro n; exact ih _
theorem sized_le (l : List Ed) : ∀ n, vld n l → sized n l ≤ n + 8 * l.length := by
  induction l with
  | nil => intro n _; simp [sized]
  | cons d l ih => intro n h; obtain ⟨h1, h2, h3, h4⟩ := h; have := ih _ h4; simp only [sized, List.length_cons]; omega

theorem edit_info : (Try.prog.info? 49).map (fun i => (i.zero, i.size, i.bytes)) = some (some (.agg #[.int .i64 0, .int .i64 0, .string ⟨#[]⟩]), 3, 32) := by kernel_rfl
def EditsOwn (k n : Nat) (w : World) (e : Ending) (w' : World) : Prop := ∃ v es, e = .returned v ∧ w'.ownsRow w.heap.size 49 3 v es.length (edCells es) ∧ vld n es ∧ es.length ≤ k ∧ Below w.heap.size w w'
def EditsPost (k n : Nat) (w : World) (e : Ending) (w' : World) : Prop := ∃ v es, e = .returned v ∧ EdRow w' v es ∧ vld n es ∧ es.length ≤ k ∧ Below w.heap.size w w'

/-- The text behind edits; what undoes them, the first one first; when they may be made. -/
def rn : ByteArray → List Ed → ByteArray
  | s, [] => s
  | s, e :: l => rn (mk s e) l
def bk : ByteArray → List Ed → List Ed
  | _, [] => []
  | s, e :: l => unmk s e :: bk (mk s e) l
def okr : Nat → List Ed → Prop
  | _, [] => True
  | n, e :: l => e.p + e.c ≤ n ∧ n + e.put.size - e.c ≤ 600 ∧ okr (n + e.put.size - e.c) l
theorem rn_append (a b : List Ed) : ∀ s, rn s (a ++ b) = rn (rn s a) b := by
  induction a with
  | nil => intro s; rfl
  | cons e a ih => intro s; exact ih _
theorem bk_append (a b : List Ed) : ∀ s, bk s (a ++ b) = bk s a ++ bk (rn s a) b := by
  induction a with
  | nil => intro s; rfl
  | cons e a ih => intro s; simp only [List.cons_append, bk, rn, ih]
theorem bk_len (l : List Ed) : ∀ s, (bk s l).length = l.length := by
  induction l with
  | nil => intro s; rfl
  | cons e l ih => intro s; simp [bk, ih]
theorem okr_append (a b : List Ed) : ∀ n, okr n (a ++ b) ↔ okr n a ∧ okr (sized n a) b := by
  induction a with
  | nil => intro n; simp [okr, sized]
  | cons e a ih => intro n; simp only [List.cons_append, okr, sized, ih, and_assoc]
theorem rn_size (l : List Ed) : ∀ s : ByteArray, okr s.size l → (rn s l).size = sized s.size l := by
  induction l with
  | nil => intro s _; rfl
  | cons e l ih =>
    intro s h
    have e1 := mk_size s e h.1
    have := ih (mk s e) (by rw [e1]; exact h.2.2)
    simp only [rn, sized]; rw [this, e1]
theorem sized_600 (l : List Ed) : ∀ n, n ≤ 600 → okr n l → sized n l ≤ 600 := by
  induction l with
  | nil => intro n h _; exact h
  | cons e l ih => intro n h ho; exact ih _ ho.2.1 ho.2.2
theorem okr_of_vld (l : List Ed) : ∀ n, vld n l → n + 8 * l.length ≤ 600 → okr n l := by
  induction l with
  | nil => intro n _ _; trivial
  | cons e l ih =>
    intro n h hn
    obtain ⟨h1, h2, h3, h4⟩ := h
    simp only [List.length_cons] at hn
    exact ⟨h1, by omega, ih _ h4 (by omega)⟩
theorem back_rn (l : List Ed) : ∀ s : ByteArray, s.size ≤ 600 → okr s.size l → okr (rn s l).size (bk s l).reverse ∧ rn (rn s l) (bk s l).reverse = s := by
  induction l with
  | nil => intro s _ _; exact ⟨trivial, rfl⟩
  | cons e l ih =>
    intro s hs h
    have e1 := mk_size s e h.1
    obtain ⟨i1, i2⟩ := ih (mk s e) (by rw [e1]; exact h.2.1) (by rw [e1]; exact h.2.2)
    simp only [bk, List.reverse_cons, rn]
    rw [okr_append, rn_append, i2]
    refine ⟨⟨i1, ?_⟩, unmk_mk s e h.1⟩
    rw [← rn_size _ _ i1, i2]
    have h1 := h.1
    refine ⟨?_, ?_, trivial⟩
    · rw [e1]; simp only [unmk]; omega
    · rw [e1]; simp only [unmk, ByteArray.size_extract]; omega

def RunPost (s : ByteArray) (es : List Ed) (w : World) (e : Ending) (w' : World) : Prop := ∃ v, e = .returned (.tuple #[.string (rn s es), v, .int .i64 0]) ∧ w'.ownsRow w.heap.size 49 3 v (bk s es).length (edCells (bk s es)) ∧ Below w.heap.size w w'

set_option maxRecDepth 100000 in
set_option maxHeartbeats 2000000 in
theorem run_any (s : ByteArray) (v : Value) (es : List Ed) (w : World) (h : EdRow w v es) (hs : s.size ≤ 600) (hl : es.length ≤ 60) (hput : ∀ e ∈ es, e.put.size ≤ 600) (ho : okr s.size es) :
    Calls Try.prog 48 #[.string s, v] w (RunPost s es w) := by
  obtain ⟨A, c, rfl, hlc, hc, hr⟩ := h
  unfold maxLen at hc
  go_enter Try.func48, Try.ntmps48
  go_wp2_with fail
  go_loopw [0, 7, 21] (fun tx o i wr => ∃ (j : Nat), j ≤ es.length ∧ i = .int .i64 j ∧ tx = .string (rn s (es.take j)) ∧ wr.ownsRow w.heap.size 49 3 o (bk s (es.take j)).length (edCells (bk s (es.take j))) ∧ Below w.heap.size w wr) (fun _ _ i _ => es.length - (intOf i).toNat)
  case atStart => exact ⟨0, Nat.zero_le _, rfl, rfl, World.ownsRow_nil _ _ _ _, Below.refl _ _⟩
  case round =>
    obtain ⟨j, hj, rfl, rfl, hown, hbel⟩ := hrel
    by_cases hlt : j < es.length
    · obtain ⟨b0, o0, rfl, hab, c0, c1, c2⟩ := EdRow.at_ (hr.below hbel) hlt
      have hsn : es.take (j + 1) = es.take j ++ [es[j]] := List.take_succ_eq_append_getElem hlt
      have hoj : okr s.size (es.take j) ∧ okr (sized s.size (es.take j)) (es.drop j) := by rw [← okr_append, List.take_append_drop]; exact ho
      have hst := rn_size _ s hoj.1
      have h600 := sized_600 _ _ hs hoj.1
      have hdj : es.drop j = es[j] :: es.drop (j + 1) := by rw [List.drop_eq_getElem_cons hlt]
      rw [hdj] at hoj
      have ho1 := hoj.2.1
      have ho2 := hoj.2.2.1
      rw [← hst] at ho1 ho2 h600
      have hp6 := hput es[j] (List.getElem_mem hlt)
      have hR := rn_append (es.take j) [es[j]] s
      have hB := bk_append (es.take j) [es[j]] s
      rw [← hsn] at hR hB
      simp only [rn, bk] at hR hB
      have hbl := bk_len (es.take j) s
      rw [List.length_take, Nat.min_eq_left hj] at hbl
      have HR := Lib.hid hR
      have HB := Lib.hid hB
      clear hR hB hsn hoj hst hdj ho hput
      generalize es[j] = d at *
      generalize rn s (es.take j) = t at *
      generalize bk s (es.take j) = bs at *
      have hL : (wr.alloc (Obj.cells #[.int .i64 (d.p : Int), .int .i64 (d.c : Int), .string d.put] 49)).cell? ⟨wr.heap.size, 0, none⟩ = some (.int .i64 (d.p : Int)) ∧ (wr.alloc (Obj.cells #[.int .i64 (d.p : Int), .int .i64 (d.c : Int), .string d.put] 49)).cell? ⟨wr.heap.size, 1, none⟩ = some (.int .i64 (d.c : Int)) ∧ (wr.alloc (Obj.cells #[.int .i64 (d.p : Int), .int .i64 (d.c : Int), .string d.put] 49)).cell? ⟨wr.heap.size, 2, none⟩ = some (.string d.put) := by simp [go_sem]
      have HL := Lib.hid hL
      clear hL
      have hlo : ∀ k, u7.ownBlock = some k → k < wr.heap.size := fun k e => (hown.lt k e).2
      have HLO := Lib.hid hlo
      clear hlo
      go_wp2_with fail
      refine (check_any t.size d.p d.c d.put _ ho1 h600 (by omega)).mono ?_
      rintro e w1 ⟨rfl, hb1⟩
      obtain ⟨L0, L1, L2⟩ := three_below hb1 (by simp) HL.out
      have s1 : wr.heap.size < w1.heap.size := by have := hb1.size; simp at this; omega
      replace hb1 := bstep_alloc hb1
      have hown1 := own_below hown hb1
      have hbel1 := bstep hbel hb1
      clear hown c0 c1 c2
      go_wp2_with fail
      refine (undo_any t d.p d.c d.put _ ho1 (by omega) (by omega)).mono ?_
      rintro e w2 ⟨rfl, hb2⟩
      obtain ⟨M0, M1, M2⟩ := three_below hb2 s1 ⟨L0, L1, L2⟩
      have s2 : wr.heap.size < w2.heap.size := Nat.lt_of_lt_of_le s1 hb2.size
      have hown2 := own_below hown1 hb2
      have hbel2 := bstep hbel1 hb2
      clear hown1 L0 L1 L2
      have hlo : u7.ownBlock ≠ some wr.heap.size := by intro e; have := HLO.out _ e; omega
      go_wp2_with (at_builtin; refine wpList_appN rfl (.tmp 32) (.tmp 36) _ rfl w.heap.size 49 _ 3 32 Try.underlying44 edit_info rfl (by decide) _ _ _ rfl hown2 [.int .i64 (d.p : Int), .int .i64 (d.put.size : Int), .string (t.extract d.p (d.p + d.c))] rfl _ rfl rfl rfl (by simp [Value.oneCell']) (by omega) (by omega) hbel2.size ?_)
      intro v' w3 hown3 hbel3 hgr
      replace hbel3 := hbel3 _ (Nat.le_refl _) _ hbel2
      have N0 : w3.cell? ⟨wr.heap.size, 0, none⟩ = some (.int .i64 (d.p : Int)) := hgr.cell M0 (Ne.symm hlo)
      have N1 : w3.cell? ⟨wr.heap.size, 1, none⟩ = some (.int .i64 (d.c : Int)) := hgr.cell M1 (Ne.symm hlo)
      have N2 : w3.cell? ⟨wr.heap.size, 2, none⟩ = some (.string d.put) := hgr.cell M2 (Ne.symm hlo)
      clear hgr M0 M1 M2
      go_wp2_with fail
      refine (made_any t d.p d.c d.put _ ho1 (by omega) (by omega)).mono ?_
      rintro e w4 ⟨rfl, hb4⟩
      have hown4 := own_below hown3 hb4
      have hbel4 := bstep hbel3 hb4
      clear hown3 N0 N1 N2
      go_wp2_with fail
      go_roundw
      case rel =>
        refine ⟨j + 1, by omega, by go_num, by rw [HR.out], ?_, hbel4⟩
        rw [HB.out, edCells_snoc, List.length_append]
        show w4.ownsRow w.heap.size _ 3 v' (bs.length + 1) _
        rw [hbl]; exact hown4
      case measure => simp [intOf]; omega
    · have H1 := Lib.hid (show es.take j = es by rw [List.take_of_length_le (by omega)])
      rw [H1.out] at hown ⊢
      go_wp2_with fail
      go_ret3
      exact ⟨_, rfl, hown, hbel⟩

set_option maxHeartbeats 1000000 in
theorem apply_any (s : ByteArray) (v : Value) (es : List Ed) (w : World) (h : EdRow w v es) (hs : s.size ≤ 600) (hl : es.length ≤ 60) (hput : ∀ e ∈ es, e.put.size ≤ 600) (ho : okr s.size es) :
    Calls Try.prog 24 #[.string s, v] w fun e w' => e = .returned (.tuple #[.string (rn s es), .int .i64 0]) ∧ Below w.heap.size w w' := by
  go_enter Try.func24, Try.ntmps24
  go_wp2_with fail
  refine (run_any s v es _ h hs hl hput ho).mono ?_
  rintro e w1 ⟨v1, rfl, _, hb1⟩
  go_wp2_with fail
  go_ret2
  exact ⟨rfl, hb1⟩

/-- A slice literal of edits, just made. -/
theorem EdRow.lit (w : World) (e : TypeId) (es : List Ed) (h : es.length ≤ maxLen) : EdRow (w.alloc (.cells (edCells es).toArray e)) (.slice (some ⟨w.heap.size, 0, none⟩) es.length es.length) es :=
  ⟨_, _, rfl, Nat.le_refl _, h, ⟨edCells_len es, fun hp => ⟨_, rfl, by simp, new_cells w _ e⟩⟩⟩
theorem edCells_append (a b : List Ed) : edCells (a ++ b) = edCells a ++ edCells b := by simp [edCells]
theorem edCells_take (es : List Ed) (k : Nat) (hk : k ≤ es.length) : edCells (es.take k) = (edCells es).take (k * 3) := by
  have h := edCells_append (es.take k) (es.drop k)
  rw [List.take_append_drop] at h
  have hl : (edCells (es.take k)).length = k * 3 := by rw [edCells_len, List.length_take, Nat.min_eq_left hk]
  rw [h, ← hl, List.take_left]
theorem edCells_drop (es : List Ed) (k : Nat) (hk : k ≤ es.length) : edCells (es.drop k) = (edCells es).drop (k * 3) := by
  have h := edCells_append (es.take k) (es.drop k)
  rw [List.take_append_drop] at h
  have hl : (edCells (es.take k)).length = k * 3 := by rw [edCells_len, List.length_take, Nat.min_eq_left hk]
  rw [h, ← hl, List.drop_left]
theorem EdRow.take {w : World} {A : Option Addr} {c : Nat} {es : List Ed} {k : Nat} (h : EdRow w (.slice A es.length c) es) (hk : k ≤ es.length) : EdRow w (.slice A k c) (es.take k) := by
  obtain ⟨A', c', hv, hl, hc, hr⟩ := h
  injection hv with h1 h2 h3
  subst h1; subst h3
  have hlen : (es.take k).length = k := by rw [List.length_take, Nat.min_eq_left hk]
  refine ⟨A, c, by rw [hlen], by omega, hc, ⟨edCells_len _, fun hp => ?_⟩⟩
  rw [hlen] at hp
  obtain ⟨ad, ha, hb, hcell⟩ := hr.2 (by omega)
  refine ⟨ad, ha, hb, fun j u hu => hcell j u ?_⟩
  rw [edCells_take es k hk, List.getElem?_take] at hu
  split at hu
  · exact hu
  · simp at hu
theorem EdRow.drop {w : World} {A : Option Addr} {c : Nat} {es : List Ed} {k : Nat} (h : EdRow w (.slice A es.length c) es) (hk : k ≤ es.length) : EdRow w (.slice (if c = k then A else A.map (·.add (k * 3))) (es.length - k) (c - k)) (es.drop k) := by
  obtain ⟨A', c', hv, hl, hc, hr⟩ := h
  injection hv with h1 h2 h3
  subst h1; subst h3
  have hlen : (es.drop k).length = es.length - k := by rw [List.length_drop]
  refine ⟨_, _, by rw [hlen], by omega, by omega, ?_⟩
  rw [hlen, edCells_drop es k hk]
  exact hr.cut hk hl
theorem vld_put600 (l : List Ed) : ∀ n, vld n l → ∀ e ∈ l, e.put.size ≤ 600 := by
  induction l with
  | nil => intro n _ e he; simp at he
  | cons d l ih =>
    intro n h e he
    obtain ⟨h1, h2, h3, h4⟩ := h
    simp only [List.mem_cons] at he
    rcases he with rfl | he
    · omega
    · exact ih _ h4 e he
end Go.Proofs.Ytpgjjnbepkofdaa
