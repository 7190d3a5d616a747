/-
  The walk of the law MarksUndone: whatever its input, it returns true and changes nothing that was there.
-/
import Derived.Test.YtafbkdgdhglakaaMovedM
import Derived.Test.YtafbkdgdhglakaaInv
namespace Go.Proofs.Ytafbkdgdhglakaa
open Go.RowKit
set_option linter.unusedVariables false

/-- An insertion, and what cuts it again. -/
def unput (e : Ed) : Ed := ⟨e.p, e.put.size, ⟨#[]⟩⟩
theorem mv_unput (p s i : Nat) (r : Bool) : mv p s 0 (mv p 0 s i r) r = i := by
  rcases Nat.lt_trichotomy i p with h | h | h
  · have a : mv p 0 s i r = i := by simp [mv, h]
    rw [a]; simp [mv, h]
  · subst h
    cases r
    · have a : mv i 0 s i false = i := by simp [mv]
      rw [a]; unfold mv
      rw [if_neg (by omega), if_neg (by omega)]; simp
    · have a : mv i 0 s i true = i + s := by simp [mv]
      rw [a]; unfold mv
      rw [if_neg (by omega)]
      split
      · omega
      · simp
  · have a : mv p 0 s i r = i + s := by unfold mv; rw [if_neg (by omega), if_pos (by omega)]; omega
    rw [a]; unfold mv
    rw [if_neg (by omega), if_pos (by omega)]; omega
def inOnly (n : Nat) : List Ed → Prop
  | [] => True
  | e :: l => e.p ≤ n ∧ e.c = 0 ∧ e.put.size ≤ 8 ∧ inOnly (n + e.put.size) l
theorem mvs_unput (es : List Ed) : ∀ n, inOnly n es → ∀ m : Mk, mvs (es.map unput).reverse (mvs es m) = m := by
  induction es with
  | nil => intro n _ m; rfl
  | cons e es ih =>
    intro n h m
    obtain ⟨h1, h2, h3, h4⟩ := h
    rw [List.map_cons, List.reverse_cons, mvs_append]
    have e1 : mvs (e :: es) m = mvs es (mv1 e m) := rfl
    rw [e1, ih _ h4]
    show mv1 (unput e) (mv1 e m) = m
    unfold mv1 unput
    rw [h2]
    show Mk.mk (mv e.p e.put.size 0 (mv e.p 0 e.put.size m.at_ m.right) m.right) m.right = m
    rw [mv_unput]
theorem okr_in (es : List Ed) : ∀ n, inOnly n es → n + 8 * es.length ≤ 600 → okr n es ∧ sized n es ≤ n + 8 * es.length := by
  induction es with
  | nil => intro n _ _; exact ⟨trivial, by simp [sized]⟩
  | cons e es ih =>
    intro n h hn
    obtain ⟨h1, h2, h3, h4⟩ := h
    simp only [List.length_cons] at hn ⊢
    obtain ⟨i1, i2⟩ := ih _ h4 (by omega)
    refine ⟨⟨by omega, by omega, by rw [h2, Nat.sub_zero]; exact i1⟩, ?_⟩
    show sized (n + e.put.size - e.c) es ≤ _
    rw [h2, Nat.sub_zero]; omega
theorem okr_out (es : List Ed) : ∀ n, inOnly n es → n + 8 * es.length ≤ 600 → okr (sized n es) (es.map unput).reverse ∧ sized (sized n es) (es.map unput).reverse = n := by
  induction es with
  | nil => intro n _ _; exact ⟨trivial, rfl⟩
  | cons e es ih =>
    intro n h hn
    obtain ⟨h1, h2, h3, h4⟩ := h
    simp only [List.length_cons] at hn
    obtain ⟨i1, i2⟩ := ih _ h4 (by omega)
    have e1 : sized n (e :: es) = sized (n + e.put.size) es := by
      show sized (n + e.put.size - e.c) es = _; rw [h2, Nat.sub_zero]
    rw [List.map_cons, List.reverse_cons, okr_append, e1, sized_snoc, i2]
    refine ⟨⟨i1, ?_⟩, ?_⟩
    · show e.p + e.put.size ≤ _ ∧ n + e.put.size + 0 - e.put.size ≤ 600 ∧ True
      exact ⟨by omega, by omega, trivial⟩
    · show n + e.put.size + 0 - e.put.size = n
      omega
theorem inOnly_snoc (a : List Ed) (e : Ed) : ∀ n, inOnly n (a ++ [e]) ↔ inOnly n a ∧ e.p ≤ sized n a ∧ e.c = 0 ∧ e.put.size ≤ 8 := by
  induction a with
  | nil => intro n; simp [inOnly, sized]
  | cons d a ih =>
    intro n
    simp only [List.cons_append, inOnly, ih, sized]
    constructor
    · rintro ⟨h1, h2, h3, h4, h5⟩
      refine ⟨⟨h1, h2, h3, h4⟩, ?_⟩
      rw [h2, Nat.sub_zero]; exact h5
    · rintro ⟨⟨h1, h2, h3, h4⟩, h5⟩
      rw [h2, Nat.sub_zero] at h5; exact ⟨h1, h2, h3, h4, h5⟩
theorem vld_put8 (l : List Ed) : ∀ n, vld n l → ∀ e ∈ l, e.put.size ≤ 8 := by
  induction l with
  | nil => intro n _ e he; simp at he
  | cons d l ih =>
    intro n h e he
    obtain ⟨h1, h2, h3, h4⟩ := h
    simp only [List.mem_cons] at he
    rcases he with rfl | he
    · omega
    · exact ih _ h4 e he
theorem okr_p (l : List Ed) : ∀ n, n ≤ 600 → okr n l → ∀ e ∈ l, e.p ≤ 600 := by
  induction l with
  | nil => intro n _ _ e he; simp at he
  | cons d l ih =>
    intro n hn h e he
    simp only [List.mem_cons] at he
    have h1 := h.1
    rcases he with rfl | he
    · omega
    · exact ih _ h.2.1 h.2.2 e he
theorem in_put8 (l : List Ed) : ∀ n, inOnly n l → ∀ e ∈ l, e.put.size ≤ 8 := by
  induction l with
  | nil => intro n _ e he; simp at he
  | cons d l ih =>
    intro n h e he
    simp only [List.mem_cons] at he
    rcases he with rfl | he
    · exact h.2.2.1
    · exact ih _ h.2.2.2 e he
def edc (e : Ed) : List Value := [.int .i64 (e.p : Int), .int .i64 (e.c : Int), .string e.put]
theorem edc_len (e : Ed) : (edc e).length = 3 := rfl
theorem edc_one (e : Ed) : ∀ u ∈ edc e, u.oneCell' = true := by intro u hu; simp [edc] at hu; rcases hu with rfl | rfl | rfl <;> rfl
theorem edc_at {w : World} {B : Nat} {A : Option Addr} {xs : List Ed} (h : Reads w B 3 A xs.length (cellsOf edc xs)) {i : Nat} (hi : i < xs.length) :
    ∃ b off, A = some ⟨b, off, none⟩ ∧ b < B ∧ w.cell? ⟨b, off + i * 3, none⟩ = some (.int .i64 (xs[i].p : Int)) ∧ w.cell? ⟨b, off + i * 3 + 2, none⟩ = some (.string xs[i].put) := by
  obtain ⟨b, off, hA, hb, hx⟩ := CRow.at_ edc_len (by omega) h hi
  exact ⟨b, off, hA, hb, hx 0 _ rfl, by rw [Nat.add_assoc]; exact hx 2 _ rfl⟩
theorem set_mid {α : Type} (a : List α) (x y : α) (b : List α) (j : Nat) (h : a.length = j) : (a ++ x :: b).set j y = a ++ y :: b := by
  subst h; rw [List.set_append_right _ _ (Nat.le_refl _), Nat.sub_self, List.set_cons_zero]
theorem get_mid {α : Type} (a : List α) (x : α) (b : List α) (j : Nat) (h : a.length = j) (hj : j < (a ++ x :: b).length) : (a ++ x :: b)[j] = x := by
  subst h; simp

set_option maxRecDepth 100000 in
set_option maxHeartbeats 4000000 in
theorem marksUndone_walk (w : World) (v0 : Value) (l : List Int) (h0 : Row .i64 w v0 l) (size : Int) (hsize : -9223372036854775808 ≤ size ∧ size ≤ 9223372036854775807) (v1 : Value) (cs : List Chg) (h1 : Chgs w v1 cs) :
    Calls Try.prog 10 #[v0, .int .i64 size, v1] w fun e w' => e = .returned (.bool true) ∧ Below w.heap.size w w' := by
  obtain ⟨i0, hi, hz0, hz1, hz2⟩ := info_parts edit_info
  have hp := fun W => picked_any size 100 W hsize (by omega) (by omega)
  have hm := Int.emod_nonneg size (show (100 : Int) ≠ 0 by omega)
  have hm2 := Int.emod_lt_of_pos size (show (0 : Int) < 100 by omega)
  generalize size % 100 = y at *
  obtain ⟨n, rfl⟩ : ∃ n : Nat, y = (n : Int) := ⟨y.toNat, by omega⟩
  have HP := Lib.hid hp
  clear hp hm
  go_enter Try.func10, Try.ntmps10
  go_wp2_with fail
  refine (HP.out _).mono ?_
  rintro e w' ⟨rfl, rfl⟩
  clear HP
  go_wp2_with fail
  refine (marks_any v0 l 20 n _ h0 (by omega) (by omega)).mono ?_
  rintro e w1 ⟨vm, ms, rfl, hms, hmn, hml, k1⟩
  replace h1 := h1.later k1
  clear h0
  go_wp2_with fail
  refine (edits_own v1 cs 10 n _ h1 (by omega) (by omega)).mono ?_
  rintro e w2 ⟨ve, es, rfl, he, hv, hl, hb2⟩
  have ho := okr_of_vld es _ hv (by omega)
  have hp8 := vld_put8 es _ hv
  have hpp := okr_p es n (by omega) ho
  clear h1 hv ho
  obtain ⟨A, c, rfl, hlc, hc, -⟩ := EdRow.of_own he
  obtain ⟨Am, cm, rfl, hlcm, hcm, -⟩ := id hms
  unfold maxLen at hc hcm
  go_wp2_with fail
  go_loopw [10, 11] (fun a i wr => ∃ (j : Nat) (pre : List Ed), j ≤ es.length ∧ pre.length = j ∧ i = .int .i64 j ∧ a = .int .i64 (sized n pre : Int) ∧ inOnly n pre ∧ wr.ownsRow w1.heap.size 61 3 (.slice A es.length c) es.length (cellsOf edc (pre ++ es.drop j)) ∧ Below w1.heap.size w1 wr) (fun _ i _ => es.length - (intOf i).toNat)
  case atStart => exact ⟨0, [], Nat.zero_le _, rfl, rfl, rfl, trivial, he, hb2⟩
  case round =>
    clear he hb2
    obtain ⟨j, pre, hj, hpl, rfl, rfl, hin, hown, hbel⟩ := hrel
    by_cases hlt : j < es.length
    · obtain ⟨g, cap, hvv, hg, hgl⟩ := hown.form (by omega)
      injection hvv with hv1 hv2 hv3
      subst hv1
      subst hv3
      have hsz := (okr_in pre n hin (by omega)).2
      have hd8 := hp8 es[j] (List.getElem_mem hlt)
      have hdp := hpp es[j] (List.getElem_mem hlt)
      rw [List.drop_eq_getElem_cons hlt] at hown
      generalize es[j] = d at *
      have hlX : (pre ++ d :: es.drop (j + 1)).length = es.length := by simp; omega
      have hx0 : wr.cell? ⟨g, j * 3, none⟩ = some (.int .i64 (d.p : Int)) := by
        have := hown.cellAt (j * 3 + 0) (by omega)
        rw [cellsOf_at edc_len _ j (by omega) 0 (by omega), get_mid pre d _ j hpl] at this; exact this
      have hx1 : wr.cell? ⟨g, j * 3 + 1, none⟩ = some (.int .i64 (d.c : Int)) := by
        have := hown.cellAt (j * 3 + 1) (by omega)
        rw [cellsOf_at edc_len _ j (by omega) 1 (by omega), get_mid pre d _ j hpl] at this; exact this
      have hx2 : wr.cell? ⟨g, j * 3 + 2, none⟩ = some (.string d.put) := by
        have := hown.cellAt (j * 3 + 2) (by omega)
        rw [cellsOf_at edc_len _ j (by omega) 2 (by omega), get_mid pre d _ j hpl] at this; exact this
      have hf : ∀ k, wr.frozen? ⟨g, k, none⟩ = false := fun k => hown.frozenAt k
      generalize hS : sized n pre = S at *
      have hq1 : (d.p : Int) % ((S : Int) + 1) = ((d.p % (S + 1) : Nat) : Int) := by push_cast; rfl
      have hq2 : d.p % (S + 1) ≤ S := by have := Nat.mod_lt d.p (show 0 < S + 1 by omega); omega
      generalize d.p % (S + 1) = q at *
      have PK := Lib.hid (fun W => picked_any (d.p : Int) ((S : Int) + 1) W (by omega) (by omega) (by omega))
      rw [hq1] at PK
      have s1 := (hown.stored (j * 3 + 1) (.int .i64 0)).1
      rw [cellsOf_set edc_len _ j (by omega) 1 (by omega) _ (⟨d.p, 0, d.put⟩ : Ed) (by rw [get_mid pre d _ j hpl]; rfl), set_mid pre d _ _ j hpl] at s1
      have s2 := (s1.stored (j * 3 + 0) (.int .i64 (q : Int))).1
      have hlX2 : (pre ++ (⟨d.p, 0, d.put⟩ : Ed) :: es.drop (j + 1)).length = es.length := by simp; omega
      rw [cellsOf_set edc_len _ j (by omega) 0 (by omega) _ (⟨q, 0, d.put⟩ : Ed) (by rw [get_mid pre _ _ j hpl]; rfl), set_mid pre _ _ _ j hpl] at s2
      have k2 := (hbel.setCell (p := ⟨g, j * 3 + 1, none⟩) hg (.int .i64 0)).setCell (p := ⟨g, j * 3 + 0, none⟩) hg (.int .i64 (q : Int))
      have S2 := Lib.hid s2
      have K2 := Lib.hid k2
      clear hq1 s1 s2 k2 hown hlX hlX2
      go_wp2_with fail
      refine (PK.out _).mono ?_
      rintro e w' ⟨rfl, rfl⟩
      go_wp2_with fail
      go_roundw
      case rel =>
        refine ⟨j + 1, pre ++ [⟨q, 0, d.put⟩], by omega, by simp [hpl], by go_num, ?_, (inOnly_snoc _ _ _).2 ⟨hin, by rw [hS]; exact hq2, rfl, hd8⟩, by rw [List.append_assoc]; exact S2.out, K2.out⟩
        rw [sized_snoc, hS]; simp
      case measure => simp [intOf]; omega
    · obtain rfl : j = es.length := by omega
      rw [List.drop_length, List.append_nil] at hown
      obtain ⟨o1, o1'⟩ := okr_in pre n hin (by omega)
      obtain ⟨o2, o2'⟩ := okr_out pre n hin (by omega)
      have hback := mvs_unput pre n hin
      have hms2 := hms.later hbel
      have k2 := bstep k1 hbel
      have hg0 : w1.heap.size ≤ wr.heap.size := hbel.size
      have hpo := okr_p pre n (by omega) o1
      have hpre8 := in_put8 pre n hin
      clear hms hbel hin
      have hrow : CRow 3 edc wr (.slice A es.length c) pre := CRow.of_own edc_len (by rw [hpl]; exact hown)
      clear hown
      rw [← hpl] at hrow ⊢
      have hpl10 : pre.length ≤ 10 := by omega
      clear hpl hlt hj hp8 hpp hl hlc
      generalize es = es0 at *
      obtain ⟨A', c', hv', hlp, hcp, hrp⟩ := id hrow
      injection hv' with hv1 hv2 hv3
      subst hv1; subst hv3
      clear hv2
      go_wp2_with fail
      obtain ⟨wo, rfl⟩ : ∃ wo : World, wo = wr := ⟨_, rfl⟩
      go_loopw [12, 13] (fun b i w3 => ∃ r : Nat, r ≤ pre.length ∧ i = .int .i64 ((r : Int) - 1) ∧ w3.ownsRow wo.heap.size 61 3 b (pre.length - r) (cellsOf edc ((pre.drop r).map unput).reverse) ∧ Below wo.heap.size wo w3) (fun _ i _ => (intOf i + 1).toNat)
      case atStart => exact ⟨pre.length, Nat.le_refl _, rfl, by rw [Nat.sub_self, List.drop_length]; exact World.ownsRow_nil _ _ _ _, Below.refl _ _⟩
      case round =>
        obtain ⟨r, hr, hi13, hown, hbel⟩ := hrel
        rcases r with _ | t
        · have e0 : (((0 : Nat) : Int) - 1) = -1 := by omega
          rw [e0] at hi13
          subst hi13
          rw [List.drop_zero, Nat.sub_zero] at hown
          have hbk : ((pre.map unput).reverse).length = pre.length := by simp
          have hms3 := hms2.later hbel
          have hrp3 := (hrp.below hbel).more hbel.size
          have k3 := bstep k2 hbel
          have hrb : CRow 3 edc wr u12 (pre.map unput).reverse := CRow.of_own edc_len (by rw [hbk]; exact hown)
          obtain ⟨Ab, cb, rfl, hlb, hcb, hrrb⟩ := hrb
          have hobl : okr n (pre ++ (pre.map unput).reverse) := (okr_append _ _ _).2 ⟨o1, o2⟩
          have hmap : ms.map (mvs (pre ++ (pre.map unput).reverse)) = ms := by
            have e : ms.map (mvs (pre ++ (pre.map unput).reverse)) = ms.map id := List.map_congr_left fun m _ => by rw [mvs_append, hback]; rfl
            rw [e, List.map_id]
          have hpa : ∀ e ∈ pre ++ (pre.map unput).reverse, e.put.size ≤ 600 := by
            intro e h
            rcases List.mem_append.1 h with h | h
            · have := hpre8 e h; omega
            · simp only [List.mem_reverse, List.mem_map] at h
              obtain ⟨x, _, rfl⟩ := h
              show (ByteArray.mk #[]).size ≤ 600; decide
          have hla : (pre ++ (pre.map unput).reverse).length ≤ 60 := by rw [List.length_append, hbk]; omega
          have HMAP := Lib.hid hmap
          rw [hbk] at hlb hrrb
          clear hmap hown hrow hms2 hback o1 o2 o1' o2' k2
          generalize (pre.map unput).reverse = bk0 at *
          unfold maxLen at hcb
          go_wp2_with (at_builtin; refine wpList_append_any _ rfl (.const (.slice none 0 0)) (.tmp 81) _ rfl wr.heap.size 61 i0 _ 3 32 Try.underlying46 hi hz0 hz1 hz2 rfl (by decide) (.slice none 0 0) 0 [] rfl (World.ownsRow_nil _ _ _ _) wr.heap.size A pre.length c (cellsOf edc pre) rfl hrp3 (cellsOf_oneCell edc_one pre) (by unfold maxLen; omega) (by omega) (Nat.le_refl _) ?_)
          intro v5 w5 o5 hg5 _
          have hb5 : Below wr.heap.size wr w5 := (Below.refl _ _).grown hg5 (Nat.le_refl _) (by simp [Value.ownBlock])
          have hrb5 := hrrb.below hb5
          have HMS3 := Lib.hid hms3
          clear hg5 hms3 hrrb
          go_wp2_with (at_builtin; refine wpList_append_any _ rfl (.tmp 82) (.tmp 83) _ rfl wr.heap.size 61 i0 _ 3 32 Try.underlying46 hi hz0 hz1 hz2 rfl (by decide) v5 pre.length (cellsOf edc pre) rfl o5 wr.heap.size Ab pre.length cb (cellsOf edc bk0) rfl hrb5 (cellsOf_oneCell edc_one bk0) (by unfold maxLen; omega) (by omega) hb5.size ?_)
          intro v6 w6 o6 hg6 _
          have hb6 : Below wr.heap.size wr w6 := hb5.grown hg6 hb5.size (fun g e => (o5.lt g e).1)
          have k6 := bstep k3 hb6
          have he6 : EdRow w6 v6 (pre ++ bk0) := EdRow.of_own (base := wr.heap.size) (e := 61) (by
            have ec : edCells (pre ++ bk0) = cellsOf edc pre ++ cellsOf edc bk0 := cellsOf_append (cl := edc) pre bk0
            rw [ec, List.length_append, hbk]; simpa using o6)
          clear o5 o6 hg6
          have hms6 : CRow 2 mkc w6 (.slice Am ms.length cm) ms := HMS3.out.later hb6
          clear HMS3 hrb5 hb5 hb6 k3 hrp hrp3 hbel
          obtain ⟨i1, hi1, hz01, hz11, hz21⟩ := info_parts mark_info
          go_wp2_with fail
          refine (movedM_any n _ _ ms (pre ++ bk0) _ hms6 he6 (by omega) hmn (by omega) hla hpa hobl).mono ?_
          rintro e w7 ⟨vx, rfl, hx, hb7⟩
          rw [HMAP.out] at hx
          have hms7 := hms6.later hb7
          have k7 := bstep k6 hb7
          clear hms6 he6 hb7 k6 HMAP
          obtain ⟨Aa, ca, rfl, hla', hca, hra⟩ := hx
          obtain ⟨Ac, cc, hvc, hlc', hcc, hrc⟩ := hms7
          injection hvc with hvc1 _ hvc3
          subst hvc1; subst hvc3
          unfold maxLen at hca hcc
          go_wp2_with fail
          go_loopw [16] (fun i w8 => ∃ t q : Nat, t ≤ ms.length ∧ i = .int .i64 t ∧ w8 = w7.drewN q) (fun i _ => ms.length - (intOf i).toNat)
          case atStart => exact ⟨0, 0, Nat.zero_le _, rfl, rfl⟩
          case round =>
            obtain ⟨t, q, ht, rfl, rfl⟩ := hrel
            by_cases hlt : t < ms.length
            · obtain ⟨ba, oa, rfl, hba, a0, a1⟩ := CRow.at2 (x := fun m : Mk => .int .i64 (m.at_ : Int)) (y := fun m => .bool m.right) hra hlt
              obtain ⟨bc, oc, rfl, hbc, c0, c1'⟩ := CRow.at2 (x := fun m : Mk => .int .i64 (m.at_ : Int)) (y := fun m => .bool m.right) hrc hlt
              generalize ms[t] = m at *
              generalize m.at_ = ma at *
              generalize m.right = mr at *
              go_wp2_with fail
              go_quiet (fail)
              go_wp2_with fail
              go_roundw
              case rel => exact ⟨t + 1, q + nq, by omega, by go_num, rfl⟩
              case measure => simp [intOf]; omega
            · go_wp2_with fail
              go_ret
              exact ⟨rfl, below_drewN k7 _⟩
        · have e1 : (((t + 1 : Nat) : Int) - 1) = (t : Int) := by omega
          rw [e1] at hi13
          subst hi13
          have htl : t < pre.length := by omega
          obtain ⟨b0, o0, rfl, hb0, c0, c2⟩ := edc_at ((hrp.below hbel)) htl
          have hdr : pre.drop t = pre[t] :: pre.drop (t + 1) := List.drop_eq_getElem_cons htl
          have hd8 := hpre8 pre[t] (List.getElem_mem htl)
          have hdp := hpo pre[t] (List.getElem_mem htl)
          have hlist : ((pre.drop t).map unput).reverse = ((pre.drop (t + 1)).map unput).reverse ++ [unput pre[t]] := by rw [hdr, List.map_cons, List.reverse_cons]
          have hlt2 : b0 < wr.heap.size := Nat.lt_of_lt_of_le hb0 hbel.size
          generalize pre[t] = d at *
          have HL := Lib.hid hlist
          clear hlist hdr
          obtain ⟨m, hm⟩ : ∃ m, pre.length - (t + 1) = m := ⟨_, rfl⟩
          have hmt : pre.length - t = m + 1 := by omega
          rw [hm] at hown
          have HM := Lib.hid hmt
          have hm10 : m ≤ 10 := by omega
          clear hm hmt
          go_wp2_with fail
          refine wp_region_mix 13 1 (fun w' => Below wr.heap.size wr w') (by kernel_rfl) (by kernel_rfl) (fun _ _ h1 h2 => bstep h1 h2) (Below.refl _ _) ?_
          intro ι F hne hF
          have c0F : ∀ i, (F i).cell? ⟨b0, o0 + t * 3, none⟩ = some (.int .i64 (d.p : Int)) := fun i => ((hF i).cell (p := ⟨b0, o0 + t * 3, none⟩) hlt2).trans c0
          have c2F : ∀ i, (F i).cell? ⟨b0, o0 + t * 3 + 2, none⟩ = some (.string d.put) := fun i => ((hF i).cell (p := ⟨b0, o0 + t * 3 + 2, none⟩) hlt2).trans c2
          simp only [List.take_succ_cons, List.take_zero, List.drop_succ_cons, List.drop_zero]
          repeat (refine wpB_step (fun K hK => ?_); go_simp; first | (refine hK _ ?_; clear hK K) | (apply Exists.intro; refine ⟨fun _ => ?_, hK _ ?_⟩; (fail); clear hK K))
          refine wpB_nil ?_
          intro w4 hw4 hI4
          clear c0F c2F hF
          (refine wpR_step (fun K hK => ?_); go_simp; refine hK _ _ ⟨hI4.alloc hI4.size _, ?_⟩; clear hK K)
          intro w5 hw5 hI5
          refine wpR_nil ?_
          have hown5 := own_below ((own_below hown hI4).alloc (.cells #[.int .i64 (d.p : Int), .int .i64 (d.put.size : Int), .string ⟨#[]⟩] 61)) hw5
          have hr5 := (Reads.new w4 [.int .i64 (d.p : Int), .int .i64 (d.put.size : Int), .string ⟨#[]⟩] 61 3 rfl).below hw5
          have hbel5 := bstep hbel hI5
          clear hown hw4 hI4 hI5 hw5
          go_wp2_with (at_builtin; refine wpList_append_any _ rfl (.tmp 63) (.tmp 76) _ rfl wo.heap.size 61 i0 _ 3 32 Try.underlying46 hi hz0 hz1 hz2 rfl (by decide) u12 m _ rfl hown5 _ (some ⟨w4.heap.size, 0, none⟩) 1 1 [.int .i64 (d.p : Int), .int .i64 (d.put.size : Int), .string ⟨#[]⟩] rfl hr5 (by simp [Value.oneCell']) (by unfold maxLen; omega) (by omega) hbel5.size ?_)
          intro v' w6 hown6 hg6 _
          have hbel6 := hbel5.grown hg6 hbel5.size (fun g e => (hown5.lt g e).1)
          clear hown5 hr5 hg6
          go_wp2_with fail
          go_roundw
          case rel => exact ⟨t, by omega, rfl, by rw [HL.out, HM.out, cellsOf_snoc, List.map_drop]; exact hown6, hbel6⟩
          case measure => first | (simp [intOf]; done) | (simp [intOf]; omega)
end Go.Proofs.Ytafbkdgdhglakaa
