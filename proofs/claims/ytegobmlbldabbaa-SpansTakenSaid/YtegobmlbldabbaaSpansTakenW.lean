/-
  The walk of SpansTaken: at every input it returns true, and nothing that was there is changed.
-/
import Derived.Test.YtegobmlbldabbaaSpanS
import Derived.Deep.QuietTactic
namespace Go.Proofs.Ytegobmlbldabbaa
open Go.RowKit
set_option linter.unusedVariables false
set_option linter.unusedSimpArgs false

theorem hi_of_mem {l : List Sp} {b n : Nat} (hN : Nrm b l) (h : ∀ j, inS l j = true → j < n) : ∀ x ∈ l, x.hi ≤ n := by
  intro x hx
  have h1 := (nrm_hi l b hN x hx).2.1
  have h2 : inS l (x.hi - 1) = true := by
    unfold inS
    rw [List.any_eq_true]
    exact ⟨x, hx, by simp; omega⟩
  have := h _ h2
  omega
theorem mem_of_hi {l : List Sp} {n : Nat} (h : ∀ x ∈ l, x.hi ≤ n) : ∀ j, inS l j = true → j < n := by
  intro j hj
  unfold inS at hj
  rw [List.any_eq_true] at hj
  obtain ⟨x, hx, h2⟩ := hj
  have := h x hx
  simp at h2
  omega
structure TI (s : List Sp) (n a : Nat) (left : List Sp) : Prop where
  nrm : Nrm 0 left
  hi : ∀ x ∈ left, x.hi ≤ n
  len : left.length ≤ 20
  is_ : ∀ j, inS left j = (inS s j && decide (a ≤ j))
theorem ti_step {s : List Sp} {n a m : Nat} {x : Sp} {r : List Sp} (h : TI s n a (x :: r)) (h1 : 1 ≤ m) (h2 : m ≤ x.hi - x.lo) :
    TI s n (x.lo + m) (without (x :: r) ⟨x.lo, x.lo + m⟩) ∧ a ≤ x.lo ∧ x.lo + m ≤ n ∧ ∀ j, a ≤ j → j < x.lo + m → inS s j = decide (x.lo ≤ j) := by
  obtain ⟨n1, n2, n3, n4⟩ := h
  have hx := n1.2.1
  have hN : Nrm x.lo (x :: r) := ⟨Nat.le_refl _, n1.2⟩
  have hxn := n2 x (by simp)
  obtain ⟨o1, o2⟩ := without_ok ⟨x.lo, x.lo + m⟩ (by show x.lo < x.lo + m; omega) (x :: r) _ n1
  have hax : a ≤ x.lo := by
    have h5 := n4 x.lo
    rw [inS_cons] at h5
    simp [hx] at h5
    omega
  have hin : ∀ j, x.lo ≤ j → j < x.lo + m → inS (x :: r) j = true := by
    intro j h3 h4
    rw [inS_cons]
    have : j < x.hi := by omega
    simp [h3, this]
  have hout : ∀ j, j < x.lo → inS (x :: r) j = false := fun j hj => hN.out hj
  refine ⟨⟨o1, hi_of_mem o1 (fun j hj => ?_), ?_, fun j => ?_⟩, hax, by omega, fun j h3 h4 => ?_⟩
  · rw [o2] at hj
    simp only [Bool.and_eq_true] at hj
    exact mem_of_hi n2 j hj.1
  · have := without_tail ⟨x.lo, x.lo + m⟩ (x :: r) x.lo hN (Nat.le_refl _)
    omega
  · rw [o2, n4]
    by_cases p : x.lo + m ≤ j
    · have e1 : a ≤ j := by omega
      have e2 : ¬ j < x.lo + m := by omega
      simp [p, e1, e2]
    · by_cases q : x.lo ≤ j
      · have e2 : j < x.lo + m := by omega
        simp [p, q, e2]
      · have h5 := hout j (by omega)
        rw [n4] at h5
        simp [p, h5]
  · by_cases q : x.lo ≤ j
    · have h5 := hin j q h4
      rw [n4] at h5
      simp only [Bool.and_eq_true] at h5
      simp [q, h5.1]
    · have h5 := hout j (by omega)
      rw [n4] at h5
      simp [h3] at h5
      simp [q, h5]
theorem own_drewN9 {w : World} {base n : Nat} {el : TypeId} {size : Nat} {v : Value} {xs : List Value} (h : w.ownsRow base el size v n xs) (k : Nat) : (w.drewN k).ownsRow base el size v n xs := h
theorem picked_one (a n : Int) (ha : -9223372036854775808 ≤ a ∧ a ≤ 9223372036854775807) (hn : 0 < n) (hn2 : n ≤ 4611686018427387904) : ∃ q : Nat, 1 ≤ q ∧ (q : Int) ≤ n ∧ ∀ W, Calls Try.prog 18 #[.int .i64 a, .int .i64 n] W fun e w' => e = .returned (.int .i64 ((q : Int) - 1)) ∧ W = w' := by
  obtain ⟨q, h1, h2⟩ := picked_nat a n ha hn hn2
  refine ⟨q + 1, by omega, by omega, fun W => ?_⟩
  rw [show (((q + 1 : Nat) : Int) - 1) = (q : Int) by omega]
  exact h2 W
set_option maxRecDepth 100000 in
set_option maxHeartbeats 8000000 in
theorem spansTaken_walk (w : World) (v0 : Value) (xs : List Int) (h0 : Row .i64 w v0 xs) (size : Int) (hsz : -9223372036854775808 ≤ size ∧ size ≤ 9223372036854775807) (many : Int) (hmy : -9223372036854775808 ≤ many ∧ many ≤ 9223372036854775807) :
    Calls Try.prog 6 #[v0, .int .i64 size, .int .i64 many] w fun e w' => e = .returned (.bool true) ∧ Below w.heap.size w w' := by
  obtain ⟨n, hn1, hn2, KN⟩ := picked_one size 200 hsz (by omega) (by omega)
  obtain ⟨m, hm1, hm2, KM⟩ := picked_one many 30 hmy (by omega) (by omega)
  have KN := Lib.hid KN
  have KM := Lib.hid KM
  have HS := Lib.hid (setOf_any v0 xs 20 n w h0 (by omega) (by omega))
  obtain ⟨A0, c0, rfl, _⟩ := h0
  have e1 : 1 + ((n : Int) - 1) = (n : Int) := by omega
  have e2 : 1 + ((m : Int) - 1) = (m : Int) := by omega
  go_enter Try.func6, Try.ntmps6
  go_wp2_with fail
  refine (KN.out _).mono ?_
  rintro e w' ⟨rfl, rfl⟩
  go_wp2_with fail
  refine HS.out.mono ?_
  rintro e w1 ⟨v1, s, rfl, ho1, hN, hhi, hl, hb1⟩
  have hrow := CRow.of_own spc_len ho1
  have HW := Lib.hid (within_any n v1 s w1 hrow (by omega) (by omega) hN hhi)
  have HTI : Hid (TI s n 0 s) := Lib.hid ⟨hN, hhi, hl, fun j => by simp⟩
  have HB1 := Lib.hid hb1
  obtain ⟨A1, c1, rfl, hc1, hc2⟩ := own_slice ho1
  have HROW := Lib.hid hrow
  clear ho1 hN hhi hb1 hrow HS KN
  go_wp2_with fail
  refine (KM.out _).mono ?_
  rintro e w' ⟨rfl, rfl⟩
  go_wp2_with fail
  refine HW.out.mono ?_
  rintro e w2 ⟨g, rfl, hg, hrw, hb2⟩
  have heq : ∀ W, (binOp .eql 53 (.slice (some ⟨g, 0, none⟩) (n + 1) (n + 1)) (.slice none 0 0)).run Try.prog W = .ok (.bool false) W := fun W => Lib.run_eql_slice_nil W _ _ (some ⟨g, 0, none⟩) (n + 1) (n + 1) 0 0 Try.underlying53
  have HRW := Lib.hid hrw
  have HB2 := Lib.hid (bstep HB1.out hb2)
  have HROW2 := Lib.hid (HROW.out.later hb2)
  clear hrw hb2 KM HW HROW HB1
  go_wp2_with (at_builtin; go_loud (refine wpList_copyC spc_len spc_one rfl (.tmp 31) _ rfl 56 _ 16 Try.underlying51 span_info rfl (by decide) _ s rfl HROW2.out (by omega) (by omega) ?_; intro v3 w3 ho3 hp3 hb3; have HB3 := Lib.hid (bstep HB2.out hb3); have HO3 := Lib.hid (own_mono ho3 (show w.heap.size ≤ w2.heap.size from HB2.out.size)); have HRW3 := Lib.hid (rowIs_later HRW.out hb3); clear ho3 hp3 hb3))
  clear heq HROW2 HRW
  have hgl : g < w3.heap.size := HRW3.out.lt
  go_loopw [11, 12, 13, 14, 15, 16] (fun va vl vi _ _ _ wr => ∃ (i a : Nat) (left : List Sp), va = .int .i64 a ∧ vi = .int .i64 i ∧ i ≤ a ∧ a ≤ n ∧ wr.ownsRow w.heap.size 56 2 vl left.length (cellsOf spc left) ∧ Hid (TI s n a left) ∧ wr.rowIs g 4 (n + 1) (fun j => .bool (inS s j)) ∧ Below w.heap.size w wr) (fun _ _ vi _ _ _ _ => 250 - (intOf vi).toNat)
  case atStart => exact ⟨0, 0, s, rfl, rfl, Nat.le_refl _, Nat.zero_le _, HO3.out, HTI, HRW3.out, HB3.out⟩
  case round =>
    clear HO3 HTI HRW3 HB3
    obtain ⟨i, a, left, rfl, rfl, hia, han, hown, HT, hrw, hb⟩ := hrel
    have hll := HT.out.len
    have hi250 : (i : Int) < 250 := by omega
    have hrow := CRow.of_own spc_len hown
    have HROW := Lib.hid hrow
    have HRW := Lib.hid hrw
    have HB := Lib.hid hb
    have hbs := hb.size
    rcases left with _ | ⟨x, r⟩
    · obtain ⟨Al, cl, rfl, hl1, hl2⟩ := own_slice hown
      have HT2 := fun v w (h : w.ownsRow wr.heap.size 56 2 v 0 (cellsOf spc [])) => take_none n m v w wr.heap.size h (by omega) hm1 (by omega)
      have HT2 := Lib.hid HT2
      have HIN : Hid (∀ j, a ≤ j → inS s j = false) := Lib.hid (fun j hj => by
        have := HT.out.is_ j
        rw [inS_nil] at this
        simpa [hj] using this.symm)
      clear hown hrw hb hrow
      go_wp2_with (at_builtin; go_loud (refine wpList_copyC spc_len spc_one rfl (.tmp 39) _ rfl 56 _ 16 Try.underlying51 span_info rfl (by decide) _ ([] : List Sp) rfl HROW.out (by simp) (by simp) ?_; intro v4 w4 ho4 hp4 hb4; have HB4 := Lib.hid (bstep HB.out hb4); have HO4 := Lib.hid ho4; have HRW4 := Lib.hid (rowIs_later HRW.out hb4); clear ho4 hp4 hb4))
      refine (HT2.out _ w4 HO4.out).mono ?_
      rintro e w5 ⟨rfl, hb5⟩
      have HB5 := Lib.hid (bstep HB4.out hb5)
      have HRW5 := Lib.hid ((rowIs_later HRW4.out hb5).alloc (.cells #[.int .i64 0, .int .i64 0] 56))
      have HB6 := Lib.hid (HB5.out.alloc HB5.out.size (.cells #[.int .i64 0, .int .i64 0] 56))
      clear hb5 HB4 HO4 HRW4 HB5
      go_wp2_with fail
      obtain ⟨wo, hwo⟩ : ∃ wo : World, wo = w5.alloc (.cells #[.int .i64 0, .int .i64 0] 56) := ⟨_, rfl⟩
      go_loopw [11] (fun va wq => ∃ k : Nat, va = .int .i64 k ∧ a ≤ k ∧ k ≤ n ∧ wq.rowIs g 4 (n + 1) (fun j => .bool (inS s j)) ∧ Below w.heap.size w wq) (fun va _ => n - (intOf va).toNat)
      case atStart => exact ⟨a, rfl, Nat.le_refl _, han, HRW5.out, HB6.out⟩
      case round =>
        obtain ⟨k, rfl, hk1, hk2, hrw, hb⟩ := hrel
        have HRWq := Lib.hid hrw
        have HBq := Lib.hid hb
        by_cases hkn : k < n
        · have hcs := hrw.cell (i := k) (by omega)
          rw [HIN.out k hk1] at hcs
          have hk0 : (0 : Int) ≤ (k : Int) := by omega
          have hk3 : (k : Int) < (n : Int) + 1 := by omega
          clear hrw hb
          go_wp2_with fail
          go_roundw
          case rel => exact ⟨k + 1, by go_num, by omega, by omega, HRWq.out, HBq.out⟩
          case measure => simp [intOf]; omega
        · obtain rfl : k = n := by omega
          clear hrw hb
          go_wp2_with fail
          go_ret
          exact ⟨rfl, HBq.out⟩
    · obtain ⟨q, hq⟩ : ∃ q, min m (x.hi - x.lo) = q := ⟨_, rfl⟩
      have hxx := HT.out.nrm.2.1
      obtain ⟨t1, t2, t3, t4⟩ := ti_step HT.out (show 1 ≤ q by omega) (show q ≤ x.hi - x.lo by omega)
      have HT2 := fun v w (h : w.ownsRow wr.heap.size 56 2 v (x :: r).length (cellsOf spc (x :: r))) => take_some n m v x r w wr.heap.size h (by omega) (by omega) HT.out.nrm HT.out.hi hm1 (by omega)
      have HT2 := Lib.hid HT2
      unfold TakePost at HT2
      rw [hq] at HT2
      have HTN := Lib.hid t1
      have HIN := Lib.hid t4
      have hqm : q ≤ m := by omega
      have hqp : 1 ≤ q := by omega
      obtain ⟨z, hz⟩ : ∃ z, x.lo + q = z := ⟨_, rfl⟩
      rw [hz] at HT2 HTN HIN t3
      have hzl : z = x.lo + q := hz.symm
      generalize hxl : x.lo = xl at *
      generalize hlr : (x :: r) = lr at *
      generalize without lr ⟨xl, z⟩ = nx at *
      obtain ⟨Al, cl, rfl, hl1, hl2⟩ := own_slice hown
      have g1 : ¬ (m : Int) < (z : Int) - (xl : Int) := by omega
      have g2 : ¬ (z : Int) ≤ (xl : Int) := by omega
      have g3 : ¬ (xl : Int) < (a : Int) := by omega
      have g4 : ¬ (n : Int) < (z : Int) := by omega
      have d1 : decide ((m : Int) < (z : Int) - (xl : Int)) = false := decide_eq_false g1
      have d2 : decide (z ≤ xl) = false := decide_eq_false (by omega)
      have d3 : decide (xl < a) = false := decide_eq_false (by omega)
      have d4 : decide (n < z) = false := decide_eq_false (by omega)
      have haz : a ≤ z := by omega
      have hiz : i + 1 ≤ z := by omega
      clear hown hrw hb hrow t1 t4 hq hz hxl hlr hxx HT hzl
      go_wp2_with (at_builtin; go_loud (refine wpList_copyC spc_len spc_one rfl (.tmp 39) _ rfl 56 _ 16 Try.underlying51 span_info rfl (by decide) _ lr rfl HROW.out (by omega) (by omega) ?_; intro v4 w4 ho4 hp4 hb4; have HB4 := Lib.hid (bstep HB.out hb4); have HO4 := Lib.hid ho4; have HRW4 := Lib.hid (rowIs_later HRW.out hb4); clear ho4 hp4 hb4))
      refine (HT2.out _ w4 HO4.out).mono ?_
      rintro e w5 ⟨v5, rfl, ho5, hb5⟩
      have HB5 := Lib.hid (bstep HB4.out hb5)
      have hws4 := HB4.out.size
      have HRW6 := Lib.hid ((rowIs_later HRW4.out hb5).alloc (.cells #[.int .i64 (xl : Int), .int .i64 (z : Int)] 56))
      have HB6 := Lib.hid (HB5.out.alloc HB5.out.size (.cells #[.int .i64 (xl : Int), .int .i64 (z : Int)] 56))
      have HO6 := Lib.hid ((own_mono ho5 hws4).alloc (.cells #[.int .i64 (xl : Int), .int .i64 (z : Int)] 56))
      have BX := Blk.new w5 56 #[.int .i64 (xl : Int), .int .i64 (z : Int)]
      clear ho5 hb5 HB4 HO4 HRW4 HB5 HT2
      go_wp2_with fail
      generalize w5.alloc (.cells #[.int .i64 (xl : Int), .int .i64 (z : Int)] 56) = wo at *
      generalize w5.heap.size = gx at *
      go_loopw [11] (fun va wq => ∃ k q : Nat, va = .int .i64 k ∧ a ≤ k ∧ k ≤ z ∧ wq = wo.drewN q) (fun va _ => z - (intOf va).toNat)
      case atStart => exact ⟨a, 0, rfl, Nat.le_refl _, haz, rfl⟩
      case round =>
        obtain ⟨k, q, rfl, hk1, hk2, rfl⟩ := hrel
        have b0 : wo.cell? ⟨gx, 0, none⟩ = some (.int .i64 (xl : Int)) := BX.cell 0
        have b1 : wo.cell? ⟨gx, 1, none⟩ = some (.int .i64 (z : Int)) := BX.cell 1
        by_cases hkz : k < z
        · have hin := HIN.out k hk1 hkz
          have hcs := HRW6.out.cell (i := k) (by omega)
          have hk0 : (0 : Int) ≤ (k : Int) := by omega
          have hk3 : (k : Int) < (n : Int) + 1 := by omega
          rw [hin] at hcs
          by_cases hxk : xl ≤ k
          · rw [decide_eq_true hxk] at hcs
            have hxk' : (xl : Int) ≤ (k : Int) := by omega
            clear hin hxk
            go_wp2_with fail
            go_quiet (fail)
            go_wp2_with fail
            go_roundw
            case rel =>
              exact ⟨k + 1, _, by go_num, by omega, by omega, rfl⟩
            case measure => simp [intOf]; omega
          · rw [decide_eq_false hxk] at hcs
            have hxk' : ¬ (xl : Int) ≤ (k : Int) := by omega
            clear hin hxk
            go_wp2_with fail
            go_quiet (fail)
            go_wp2_with fail
            go_roundw
            case rel =>
              exact ⟨k + 1, _, by go_num, by omega, by omega, rfl⟩
            case measure => simp [intOf]; omega
        · obtain rfl : k = z := by omega
          go_wp2_with fail
          go_roundw
          case rel => exact ⟨i + 1, k, nx, rfl, by go_num, hiz, t3, own_drewN9 HO6.out _, HTN, HRW6.out, below_drewN HB6.out _⟩
          case measure => simp [intOf]; omega
end Go.Proofs.Ytegobmlbldabbaa
