/-
  The walk of the sort library's symMerge whole; by halves.
-/
import Derived.Test.YtpjpckhmjonehaaSymM
namespace Go.Proofs.Ytpjpckhmjonehaa
open Go.RowKit Go.Shelf Go.Sort
set_option linter.unusedVariables false
set_option linter.unusedSimpArgs false


section
variable {α : Type} [Inhabited α]
set_option maxHeartbeats 16000000 in
set_option maxRecDepth 1000000 in
theorem symMerge_any (enc : α → Value) (cf : α → α → Int) (hO : SWO (ltOf cf)) (k : Nat) (cb : Array Value) (blk off cap : Nat) (d0 : Array α) (w0 : World) (R : Row1 enc w0 blk off d0)
    (eg : ∀ args w, (callFunc k args).run Try.prog w = .ok (.enter k args) w) (hcmp : CmpLays1 Try.prog k cb enc cf blk off d0.size w0) :
    ∀ (N a m b : Nat) (d : Array α) (w : World), b - a ≤ N → d0.size = d.size → SW enc w0 blk off d w → a < m → m < b → b ≤ d.size → d.size ≤ 1000000 → SortedIn (ltOf cf) a m d → SortedIn (ltOf cf) m b d →
      Calls Try.prog 15 #[.slice (some ⟨blk, off, none⟩) d.size cap, .int .i64 (a : Int), .int .i64 (m : Int), .int .i64 (b : Int), .func (.func k) #[] cb] w (SymPost enc cf w0 blk off d a b) := by
  intro N
  induction N with
  | zero => intro a m b d w h1 h2 h3 h4 h5; omega
  | succ N ih =>
    intro a m b d w hN hs S ham hmb hb hsz hu hv
    by_cases hone : m ≤ a + 1 ∨ b ≤ m + 1
    · exact symOne_any enc cf hO k cb blk off cap d0 w0 R eg hcmp a m b d w hone hs S ham hmb hb hsz hu hv
    have HI := Lib.hid ih
    have HU := Lib.hid hu
    have HV := Lib.hid hv
    have HC : Aside _ := hcmp
    have hcl0 := R.hO.cells
    simp only [Value.cells] at hcl0
    have hst := R.hO.store Try.prog
    have mixed : Try.prog.follows Departure.mixedOrders = true := by kernel_rfl
    have S0 : Aside (SW enc w0 blk off d w) := S
    obtain ⟨ma, hma1, hma2⟩ : ∃ ma, m ≤ a + ma ∧ a + ma ≤ m := ⟨m - a, by omega, by omega⟩
    obtain ⟨mb, hmb1, hmb2⟩ : ∃ mb, b ≤ m + mb ∧ m + mb ≤ b := ⟨b - m, by omega, by omega⟩
    have z1 : ((ma : Int) == 1) = false := by rw [beq_eq_false_iff_ne]; omega
    have z2 : IntKind.i64.wrap ((m : Int) - (a : Int)) = (ma : Int) := by rw [IntKind.wrap_i64]; omega
    have z3 : ((mb : Int) == 1) = false := by rw [beq_eq_false_iff_ne]; omega
    have z4 : IntKind.i64.wrap ((b : Int) - (m : Int)) = (mb : Int) := by rw [IntKind.wrap_i64]; omega
    obtain ⟨mid, hd1, hd2⟩ : ∃ mid, 2 * mid ≤ a + b ∧ a + b ≤ 2 * mid + 1 := ⟨(a + b) / 2, by omega, by omega⟩
    have HMID : Hid (mid = (a + b) / 2) := Lib.hid (by omega)
    have z5 : ((a : Int) + (b : Int)) / 2 = (mid : Int) := by omega
    clear S ih hu hv hcmp hone
    by_cases hmm : mid < m
    · obtain ⟨lo, hlo1, hlo2⟩ : ∃ lo, lo ≤ mid + m - b ∧ mid + m - b ≤ lo := ⟨mid + m - b, Nat.le_refl _, Nat.le_refl _⟩
      obtain ⟨hi, hhi1, hhi2⟩ : ∃ hi, hi ≤ mid ∧ mid ≤ hi := ⟨mid, Nat.le_refl _, Nat.le_refl _⟩
      have HLO : Hid (lo = if mid < m then mid + m - b else a) := Lib.hid (by rw [if_pos hmm]; omega)
      have HHI : Hid (hi = if mid < m then mid else m) := Lib.hid (by rw [if_pos hmm]; omega)
      have t1 : (mid : Int) < (m : Int) := by omega
      have t2 : IntKind.i64.wrap ((mid : Int) + (m : Int) - (b : Int)) = (lo : Int) := by rw [IntKind.wrap_i64]; omega
      have hlh : lo ≤ hi := by omega
      have hb9 : hi ≤ m := by omega
      go_enter Try.func15, Try.ntmps15
      go_wp2_with fail
      go_loopw [20, 21] (fun vi vj wr => ∃ i j : Nat, vi = .int .i64 (i : Int) ∧ vj = .int .i64 (j : Int) ∧ lo ≤ i ∧ i ≤ j ∧ j ≤ hi ∧ Aside (SW enc w0 blk off d wr) ∧ Hid (i = lo ∨ ltOf cf d[mid + m - i]! d[i - 1]! = false) ∧ Hid (j = hi ∨ ltOf cf d[mid + m - 1 - j]! d[j]! = true)) (fun vi vj _ => (intOf vj).toNat - (intOf vi).toNat)
      case atStart => exact ⟨lo, hi, by first | rfl | go_num, by first | rfl | go_num, Nat.le_refl _, by omega, Nat.le_refl _, S0, Lib.hid (.inl rfl), Lib.hid (.inl rfl)⟩
      case round =>
        clear S0
        obtain ⟨i, j, rfl, rfl, hai, hij, hjb, S1, HL, HR⟩ := hrel
        rcases Nat.lt_or_ge i j with hlt | hge
        · have k1 : (i : Int) < (j : Int) := by omega
          go_wp2_with fail
          cases hlv : ltOf cf d[mid + m - 1 - (i + j) / 2]! d[(i + j) / 2]! with
          | true =>
            have HT := Lib.hid hlv
            obtain ⟨iN, hiN⟩ : ∃ zq, zq = (mid + m - 1 - (i + j) / 2) := ⟨_, rfl⟩
            obtain ⟨jN, hjN⟩ : ∃ zq, zq = ((i + j) / 2) := ⟨_, rfl⟩
            have ea : (((mid : Int) + (m : Int) - 1 - ((i : Int) + (j : Int)) / 2)).toNat = iN := by omega
            have pa : (0 : Int) ≤ ((mid : Int) + (m : Int) - 1 - ((i : Int) + (j : Int)) / 2) := by omega
            have ba : ((mid : Int) + (m : Int) - 1 - ((i : Int) + (j : Int)) / 2) < (d.size : Int) := by omega
            have ra : IntKind.i64.wrap (((mid : Int) + (m : Int) - 1 - ((i : Int) + (j : Int)) / 2)) = (iN : Int) := by rw [IntKind.wrap_i64]; omega
            have bn : (iN : Int) < (d.size : Int) := by omega
            have eb : ((((i : Int) + (j : Int)) / 2)).toNat = jN := by omega
            have pb : (0 : Int) ≤ (((i : Int) + (j : Int)) / 2) := by omega
            have bb : (((i : Int) + (j : Int)) / 2) < (d.size : Int) := by omega
            have rb : IntKind.i64.wrap ((((i : Int) + (j : Int)) / 2)) = (((i : Int) + (j : Int)) / 2) := by rw [IntKind.wrap_i64]; omega
            obtain ⟨xv, hxv⟩ : ∃ zq, zq = d[(mid + m - 1 - (i + j) / 2)]! := ⟨_, rfl⟩
            obtain ⟨yv, hyv⟩ : ∃ zq, zq = d[((i + j) / 2)]! := ⟨_, rfl⟩
            have la := S1.out.cl R (by omega) ((mid + m - 1 - (i + j) / 2)) (by omega)
            have lb := S1.out.cl R (by omega) (((i + j) / 2)) (by omega)
            rw [← hxv, ← hiN] at la
            rw [← hyv, ← hjN] at lb
            have hc := S1.out.cmp HC.out (by omega) xv yv
            have hv : ltOf cf xv yv = true := by rw [hxv, hyv]; exact hlv
            have hd : decide (cf xv yv < 0) = true := hv
            clear hxv hyv hiN hjN hv
            go_wp2_with fail
            go_quiet_grown (first | (go_at_fn k; refine Calls.grown_of (hc _ _)))
            have S2 : Aside (SW enc w0 blk off d (grow (wr.drewN nq) osq)) := S1.out.grown nq osq
            clear la lb hc S1
            generalize grow (wr.drewN nq) osq = w2 at S2 ⊢
            clear nq osq
            clear ea eb
            clear hlv
            go_wp2_with fail
            go_roundw
            case rel => exact ⟨i, (i + j) / 2, rfl, by first | rfl | go_num | (congr 1), hai, by omega, by omega, S2, HL, Lib.hid (.inr HT.out)⟩
            case measure => simp [intOf]; omega
          | false =>
            have HT : Hid (ltOf cf d[mid + m - ((i + j) / 2 + 1)]! d[(i + j) / 2]! = false) := Lib.hid (by rw [← hlv]; congr 2; omega)
            obtain ⟨iN, hiN⟩ : ∃ zq, zq = (mid + m - 1 - (i + j) / 2) := ⟨_, rfl⟩
            obtain ⟨jN, hjN⟩ : ∃ zq, zq = ((i + j) / 2) := ⟨_, rfl⟩
            have ea : (((mid : Int) + (m : Int) - 1 - ((i : Int) + (j : Int)) / 2)).toNat = iN := by omega
            have pa : (0 : Int) ≤ ((mid : Int) + (m : Int) - 1 - ((i : Int) + (j : Int)) / 2) := by omega
            have ba : ((mid : Int) + (m : Int) - 1 - ((i : Int) + (j : Int)) / 2) < (d.size : Int) := by omega
            have ra : IntKind.i64.wrap (((mid : Int) + (m : Int) - 1 - ((i : Int) + (j : Int)) / 2)) = (iN : Int) := by rw [IntKind.wrap_i64]; omega
            have bn : (iN : Int) < (d.size : Int) := by omega
            have eb : ((((i : Int) + (j : Int)) / 2)).toNat = jN := by omega
            have pb : (0 : Int) ≤ (((i : Int) + (j : Int)) / 2) := by omega
            have bb : (((i : Int) + (j : Int)) / 2) < (d.size : Int) := by omega
            have rb : IntKind.i64.wrap ((((i : Int) + (j : Int)) / 2)) = (((i : Int) + (j : Int)) / 2) := by rw [IntKind.wrap_i64]; omega
            obtain ⟨xv, hxv⟩ : ∃ zq, zq = d[(mid + m - 1 - (i + j) / 2)]! := ⟨_, rfl⟩
            obtain ⟨yv, hyv⟩ : ∃ zq, zq = d[((i + j) / 2)]! := ⟨_, rfl⟩
            have la := S1.out.cl R (by omega) ((mid + m - 1 - (i + j) / 2)) (by omega)
            have lb := S1.out.cl R (by omega) (((i + j) / 2)) (by omega)
            rw [← hxv, ← hiN] at la
            rw [← hyv, ← hjN] at lb
            have hc := S1.out.cmp HC.out (by omega) xv yv
            have hv : ltOf cf xv yv = false := by rw [hxv, hyv]; exact hlv
            have hd : decide (cf xv yv < 0) = false := hv
            clear hxv hyv hiN hjN hv
            go_wp2_with fail
            go_quiet_grown (first | (go_at_fn k; refine Calls.grown_of (hc _ _)))
            have S2 : Aside (SW enc w0 blk off d (grow (wr.drewN nq) osq)) := S1.out.grown nq osq
            clear la lb hc S1
            generalize grow (wr.drewN nq) osq = w2 at S2 ⊢
            clear nq osq
            clear ea eb
            clear hlv
            go_wp2_with fail
            go_roundw
            case rel => exact ⟨(i + j) / 2 + 1, j, by first | rfl | go_num | (congr 1), rfl, by omega, by omega, hjb, S2, Lib.hid (.inr HT.out), HR⟩
            case measure => simp [intOf]; omega
        · have k1 : decide ((i : Int) < (j : Int)) = false := decide_eq_false (by omega)
          obtain rfl : i = j := by omega
          obtain ⟨g1, g2, g3, g4, g5, g6⟩ := sym_cross hO d a m b mid lo hi i HMID.out ham hmb HLO.out HHI.out hai hjb HL.out HR.out HU.out HV.out
          obtain ⟨e, he1, he2⟩ : ∃ e, e ≤ mid + m - i ∧ mid + m - i ≤ e := ⟨mid + m - i, Nat.le_refl _, Nat.le_refl _⟩
          have HE : Hid (mid + m - i = e) := Lib.hid (by omega)
          rw [HE.out] at g4 g5 g6
          have HC5 := Lib.hid g6
          have y1 : IntKind.i64.wrap ((mid : Int) + (m : Int) - (i : Int)) = (e : Int) := by rw [IntKind.wrap_i64]; omega
          clear g6 HL HR
          by_cases q0 : i < m ∧ m < e
          · obtain ⟨q0a, q0b⟩ := q0
            have s1 : (i : Int) < (m : Int) := by omega
            have s2 : (m : Int) < (e : Int) := by omega
            have HRO := Lib.hid (rotate_any enc k cb blk off cap i m e d0 d w0 wr R hs S1 q0a q0b (by omega) hsz)
            clear S1
            go_wp2_with fail
            refine HRO.out.mono ?_
            rintro e6 w6 ⟨rfl, d1, S6, hq6, hs6, hp6⟩
            have S6' : Aside (SW enc w0 blk off d1 w6) := S6
            have HQ6 := Lib.hid hq6
            have HP6 := Lib.hid hp6
            clear S6 hq6 hs6 hp6 HRO
            obtain ⟨RU1, RU2, RU3, RU4, RU5⟩ := rot_runs hO d d1 a i m e b mid g1 g2 g4 g5 (by omega) HQ6.out HU.out HV.out HC5.out
            have HRR := Lib.hid (And.intro RU1 (And.intro RU2 (And.intro RU3 RU4)))
            have HX := Lib.hid RU5
            have HP1 : Hid (PermIn a b d d1) := Lib.hid (permIn_mono d d1 i e a b g1 g5 hb HP6.out)
            have hs11 : (d1).size ≤ d.size := by have := HP1.out.1; omega
            have hs12 : d.size ≤ (d1).size := by have := HP1.out.1; omega
            clear RU1 RU2 RU3 RU4 RU5
            by_cases q1 : a < i ∧ i < mid
            · obtain ⟨q1a, q1b⟩ := q1
              have u1' : (a : Int) < (i : Int) := by omega
              have u2' : (i : Int) < (mid : Int) := by omega
              have SY := HI.out a i mid d1 w6 (by omega) (by omega) S6' q1a q1b (by omega) (by omega) HRR.out.1 HRR.out.2.1
              rw [show (d1).size = d.size by omega] at SY
              have HSY := Lib.hid SY
              clear SY
              go_wp2_with fail
              refine HSY.out.mono ?_
              rintro e7 w7 ⟨rfl, d2, S7, hs7, hp7, hq7⟩
              have S7' : Aside (SW enc w0 blk off d2 w7) := S7
              have HP7 := Lib.hid hp7
              have HQ7 := Lib.hid hq7
              have hs71 : d2.size ≤ d.size := by omega
              clear S7 hs7 hp7 hq7 HSY
              have hs72 : d.size ≤ d2.size := by have := HP7.out.1; omega
              have HR4 : SortedIn (ltOf cf) mid e d2 := fun i j x1 x2 x3 => by rw [(HP7.out).2.1 i (.inr x1), (HP7.out).2.1 j (.inr (by omega))]; exact HRR.out.2.2.1 i j x1 x2 x3
              have HR5 : SortedIn (ltOf cf) e b d2 := fun i j x1 x2 x3 => by rw [(HP7.out).2.1 i (.inr (by omega)), (HP7.out).2.1 j (.inr (by omega))]; exact HRR.out.2.2.2 i j x1 x2 x3
              have HZ := Lib.hid (And.intro HR4 HR5)
              clear HR4 HR5
              by_cases q2 : mid < e ∧ e < b
              · obtain ⟨q2a, q2b⟩ := q2
                have v1 : (mid : Int) < (e : Int) := by omega
                have v2 : (e : Int) < (b : Int) := by omega
                have SY2 := HI.out mid e b d2 w7 (by omega) (by omega) S7' q2a q2b (by omega) (by omega) HZ.out.1 HZ.out.2
                rw [show (d2).size = d.size by omega] at SY2
                have HSY2 := Lib.hid SY2
                clear SY2
                go_wp2_with fail
                refine HSY2.out.mono ?_
                rintro e8 w8 ⟨rfl, d3, S8, hs8, hp8, hq8⟩
                have S8' : Aside (SW enc w0 blk off d3 w8) := S8
                have HP8 := Lib.hid hp8
                have HQ8 := Lib.hid hq8
                have hs81 : d3.size ≤ d.size := by omega
                clear S8 hs8 hp8 hq8 HSY2
                have hs82 : d.size ≤ d3.size := by have := HP8.out.1; omega
                go_wp2_with fail
                go_end0
                have HH := halves d1 d2 d3 a mid b (by omega) (by omega) (by omega) HX.out HP7.out HQ7.out HP8.out HQ8.out
                exact ⟨rfl, d3, S8', by omega, permIn_trans _ _ _ _ _ HP1.out HH.1, HH.2⟩
              · have HS2 : Hid (SortedIn (ltOf cf) mid b d2) := Lib.hid (sorted_one HZ.out.1 HZ.out.2 (by omega))
                by_cases q3 : mid < e
                · first
                  | (exfalso; omega)
                  | have v1 : (mid : Int) < (e : Int) := by omega
                    have v2 : decide ((e : Int) < (b : Int)) = false := decide_eq_false (by omega)
                    have v3 : decide (e < b) = false := decide_eq_false (by omega)
                    clear q2
                    go_wp2_with fail
                    go_end0
                    have HH := halves d1 d2 d2 a mid b (by omega) (by omega) (by omega) HX.out HP7.out HQ7.out (permIn_refl _ _ _) HS2.out
                    exact ⟨rfl, d2, S7', by omega, permIn_trans _ _ _ _ _ HP1.out HH.1, HH.2⟩
                · first
                  | (exfalso; omega)
                  | have v1 : decide ((mid : Int) < (e : Int)) = false := decide_eq_false (by omega)
                    have v3 : decide (mid < e) = false := decide_eq_false (by omega)
                    clear q2
                    go_wp2_with fail
                    go_end0
                    have HH := halves d1 d2 d2 a mid b (by omega) (by omega) (by omega) HX.out HP7.out HQ7.out (permIn_refl _ _ _) HS2.out
                    exact ⟨rfl, d2, S7', by omega, permIn_trans _ _ _ _ _ HP1.out HH.1, HH.2⟩
            · have HS1 : Hid (SortedIn (ltOf cf) a mid d1) := Lib.hid (sorted_one HRR.out.1 HRR.out.2.1 (by omega))
              by_cases q4 : a < i
              · first
                | (exfalso; omega)
                | have u1' : (a : Int) < (i : Int) := by omega
                  have u2' : decide ((i : Int) < (mid : Int)) = false := decide_eq_false (by omega)
                  have u3' : decide (i < mid) = false := decide_eq_false (by omega)
                  clear q1
                  have HR4 : SortedIn (ltOf cf) mid e d1 := fun i j x1 x2 x3 => by rw [((permIn_refl d1 a mid)).2.1 i (.inr x1), ((permIn_refl d1 a mid)).2.1 j (.inr (by omega))]; exact HRR.out.2.2.1 i j x1 x2 x3
                  have HR5 : SortedIn (ltOf cf) e b d1 := fun i j x1 x2 x3 => by rw [((permIn_refl d1 a mid)).2.1 i (.inr (by omega)), ((permIn_refl d1 a mid)).2.1 j (.inr (by omega))]; exact HRR.out.2.2.2 i j x1 x2 x3
                  have HZ := Lib.hid (And.intro HR4 HR5)
                  clear HR4 HR5
                  by_cases q2 : mid < e ∧ e < b
                  · obtain ⟨q2a, q2b⟩ := q2
                    have v1 : (mid : Int) < (e : Int) := by omega
                    have v2 : (e : Int) < (b : Int) := by omega
                    have SY2 := HI.out mid e b d1 w6 (by omega) (by omega) S6' q2a q2b (by omega) (by omega) HZ.out.1 HZ.out.2
                    rw [show (d1).size = d.size by omega] at SY2
                    have HSY2 := Lib.hid SY2
                    clear SY2
                    go_wp2_with fail
                    refine HSY2.out.mono ?_
                    rintro e8 w8 ⟨rfl, d3, S8, hs8, hp8, hq8⟩
                    have S8' : Aside (SW enc w0 blk off d3 w8) := S8
                    have HP8 := Lib.hid hp8
                    have HQ8 := Lib.hid hq8
                    have hs81 : d3.size ≤ d.size := by omega
                    clear S8 hs8 hp8 hq8 HSY2
                    have hs82 : d.size ≤ d3.size := by have := HP8.out.1; omega
                    go_wp2_with fail
                    go_end0
                    have HH := halves d1 d1 d3 a mid b (by omega) (by omega) (by omega) HX.out (permIn_refl d1 a mid) HS1.out HP8.out HQ8.out
                    exact ⟨rfl, d3, S8', by omega, permIn_trans _ _ _ _ _ HP1.out HH.1, HH.2⟩
                  · have HS2 : Hid (SortedIn (ltOf cf) mid b d1) := Lib.hid (sorted_one HZ.out.1 HZ.out.2 (by omega))
                    by_cases q3 : mid < e
                    · first
                      | (exfalso; omega)
                      | have v1 : (mid : Int) < (e : Int) := by omega
                        have v2 : decide ((e : Int) < (b : Int)) = false := decide_eq_false (by omega)
                        have v3 : decide (e < b) = false := decide_eq_false (by omega)
                        clear q2
                        go_wp2_with fail
                        go_end0
                        have HH := halves d1 d1 d1 a mid b (by omega) (by omega) (by omega) HX.out (permIn_refl d1 a mid) HS1.out (permIn_refl _ _ _) HS2.out
                        exact ⟨rfl, d1, S6', by omega, permIn_trans _ _ _ _ _ HP1.out HH.1, HH.2⟩
                    · first
                      | (exfalso; omega)
                      | have v1 : decide ((mid : Int) < (e : Int)) = false := decide_eq_false (by omega)
                        have v3 : decide (mid < e) = false := decide_eq_false (by omega)
                        clear q2
                        go_wp2_with fail
                        go_end0
                        have HH := halves d1 d1 d1 a mid b (by omega) (by omega) (by omega) HX.out (permIn_refl d1 a mid) HS1.out (permIn_refl _ _ _) HS2.out
                        exact ⟨rfl, d1, S6', by omega, permIn_trans _ _ _ _ _ HP1.out HH.1, HH.2⟩
              · first
                | (exfalso; omega)
                | have u1' : decide ((a : Int) < (i : Int)) = false := decide_eq_false (by omega)
                  have u3' : decide (a < i) = false := decide_eq_false (by omega)
                  clear q1
                  have HR4 : SortedIn (ltOf cf) mid e d1 := fun i j x1 x2 x3 => by rw [((permIn_refl d1 a mid)).2.1 i (.inr x1), ((permIn_refl d1 a mid)).2.1 j (.inr (by omega))]; exact HRR.out.2.2.1 i j x1 x2 x3
                  have HR5 : SortedIn (ltOf cf) e b d1 := fun i j x1 x2 x3 => by rw [((permIn_refl d1 a mid)).2.1 i (.inr (by omega)), ((permIn_refl d1 a mid)).2.1 j (.inr (by omega))]; exact HRR.out.2.2.2 i j x1 x2 x3
                  have HZ := Lib.hid (And.intro HR4 HR5)
                  clear HR4 HR5
                  by_cases q2 : mid < e ∧ e < b
                  · obtain ⟨q2a, q2b⟩ := q2
                    have v1 : (mid : Int) < (e : Int) := by omega
                    have v2 : (e : Int) < (b : Int) := by omega
                    have SY2 := HI.out mid e b d1 w6 (by omega) (by omega) S6' q2a q2b (by omega) (by omega) HZ.out.1 HZ.out.2
                    rw [show (d1).size = d.size by omega] at SY2
                    have HSY2 := Lib.hid SY2
                    clear SY2
                    go_wp2_with fail
                    refine HSY2.out.mono ?_
                    rintro e8 w8 ⟨rfl, d3, S8, hs8, hp8, hq8⟩
                    have S8' : Aside (SW enc w0 blk off d3 w8) := S8
                    have HP8 := Lib.hid hp8
                    have HQ8 := Lib.hid hq8
                    have hs81 : d3.size ≤ d.size := by omega
                    clear S8 hs8 hp8 hq8 HSY2
                    have hs82 : d.size ≤ d3.size := by have := HP8.out.1; omega
                    go_wp2_with fail
                    go_end0
                    have HH := halves d1 d1 d3 a mid b (by omega) (by omega) (by omega) HX.out (permIn_refl d1 a mid) HS1.out HP8.out HQ8.out
                    exact ⟨rfl, d3, S8', by omega, permIn_trans _ _ _ _ _ HP1.out HH.1, HH.2⟩
                  · have HS2 : Hid (SortedIn (ltOf cf) mid b d1) := Lib.hid (sorted_one HZ.out.1 HZ.out.2 (by omega))
                    by_cases q3 : mid < e
                    · first
                      | (exfalso; omega)
                      | have v1 : (mid : Int) < (e : Int) := by omega
                        have v2 : decide ((e : Int) < (b : Int)) = false := decide_eq_false (by omega)
                        have v3 : decide (e < b) = false := decide_eq_false (by omega)
                        clear q2
                        go_wp2_with fail
                        go_end0
                        have HH := halves d1 d1 d1 a mid b (by omega) (by omega) (by omega) HX.out (permIn_refl d1 a mid) HS1.out (permIn_refl _ _ _) HS2.out
                        exact ⟨rfl, d1, S6', by omega, permIn_trans _ _ _ _ _ HP1.out HH.1, HH.2⟩
                    · first
                      | (exfalso; omega)
                      | have v1 : decide ((mid : Int) < (e : Int)) = false := decide_eq_false (by omega)
                        have v3 : decide (mid < e) = false := decide_eq_false (by omega)
                        clear q2
                        go_wp2_with fail
                        go_end0
                        have HH := halves d1 d1 d1 a mid b (by omega) (by omega) (by omega) HX.out (permIn_refl d1 a mid) HS1.out (permIn_refl _ _ _) HS2.out
                        exact ⟨rfl, d1, S6', by omega, permIn_trans _ _ _ _ _ HP1.out HH.1, HH.2⟩
          · have HQ6 : Hid (∀ q, d[q]! = rotAt d i m e q) := Lib.hid (fun q => by
              rcases Nat.lt_or_ge i m with r | r
              · obtain rfl : m = e := by omega
                exact (rot_none_right d i m (by omega) q).symm
              · obtain rfl : i = m := by omega
                exact (rot_none_left d i e (by omega) q).symm)
            by_cases q5 : i < m
            · first
              | (exfalso; omega)
              | have s1 : (i : Int) < (m : Int) := by omega
                have s2 : decide ((m : Int) < (e : Int)) = false := decide_eq_false (by omega)
                have s3 : decide (m < e) = false := decide_eq_false (by omega)
                clear q0
                obtain ⟨RU1, RU2, RU3, RU4, RU5⟩ := rot_runs hO d d a i m e b mid g1 g2 g4 g5 (by omega) HQ6.out HU.out HV.out HC5.out
                have HRR := Lib.hid (And.intro RU1 (And.intro RU2 (And.intro RU3 RU4)))
                have HX := Lib.hid RU5
                have HP1 : Hid (PermIn a b d d) := Lib.hid (permIn_mono d d i e a b g1 g5 hb (permIn_refl d i e))
                have hs11 : (d).size ≤ d.size := by have := HP1.out.1; omega
                have hs12 : d.size ≤ (d).size := by have := HP1.out.1; omega
                clear RU1 RU2 RU3 RU4 RU5
                by_cases q1 : a < i ∧ i < mid
                · obtain ⟨q1a, q1b⟩ := q1
                  have u1' : (a : Int) < (i : Int) := by omega
                  have u2' : (i : Int) < (mid : Int) := by omega
                  have SY := HI.out a i mid d wr (by omega) (by omega) S1 q1a q1b (by omega) (by omega) HRR.out.1 HRR.out.2.1
                  rw [show (d).size = d.size by omega] at SY
                  have HSY := Lib.hid SY
                  clear SY
                  go_wp2_with fail
                  refine HSY.out.mono ?_
                  rintro e7 w7 ⟨rfl, d2, S7, hs7, hp7, hq7⟩
                  have S7' : Aside (SW enc w0 blk off d2 w7) := S7
                  have HP7 := Lib.hid hp7
                  have HQ7 := Lib.hid hq7
                  have hs71 : d2.size ≤ d.size := by omega
                  clear S7 hs7 hp7 hq7 HSY
                  have hs72 : d.size ≤ d2.size := by have := HP7.out.1; omega
                  have HR4 : SortedIn (ltOf cf) mid e d2 := fun i j x1 x2 x3 => by rw [(HP7.out).2.1 i (.inr x1), (HP7.out).2.1 j (.inr (by omega))]; exact HRR.out.2.2.1 i j x1 x2 x3
                  have HR5 : SortedIn (ltOf cf) e b d2 := fun i j x1 x2 x3 => by rw [(HP7.out).2.1 i (.inr (by omega)), (HP7.out).2.1 j (.inr (by omega))]; exact HRR.out.2.2.2 i j x1 x2 x3
                  have HZ := Lib.hid (And.intro HR4 HR5)
                  clear HR4 HR5
                  by_cases q2 : mid < e ∧ e < b
                  · obtain ⟨q2a, q2b⟩ := q2
                    have v1 : (mid : Int) < (e : Int) := by omega
                    have v2 : (e : Int) < (b : Int) := by omega
                    have SY2 := HI.out mid e b d2 w7 (by omega) (by omega) S7' q2a q2b (by omega) (by omega) HZ.out.1 HZ.out.2
                    rw [show (d2).size = d.size by omega] at SY2
                    have HSY2 := Lib.hid SY2
                    clear SY2
                    go_wp2_with fail
                    refine HSY2.out.mono ?_
                    rintro e8 w8 ⟨rfl, d3, S8, hs8, hp8, hq8⟩
                    have S8' : Aside (SW enc w0 blk off d3 w8) := S8
                    have HP8 := Lib.hid hp8
                    have HQ8 := Lib.hid hq8
                    have hs81 : d3.size ≤ d.size := by omega
                    clear S8 hs8 hp8 hq8 HSY2
                    have hs82 : d.size ≤ d3.size := by have := HP8.out.1; omega
                    go_wp2_with fail
                    go_end0
                    have HH := halves d d2 d3 a mid b (by omega) (by omega) (by omega) HX.out HP7.out HQ7.out HP8.out HQ8.out
                    exact ⟨rfl, d3, S8', by omega, permIn_trans _ _ _ _ _ HP1.out HH.1, HH.2⟩
                  · have HS2 : Hid (SortedIn (ltOf cf) mid b d2) := Lib.hid (sorted_one HZ.out.1 HZ.out.2 (by omega))
                    by_cases q3 : mid < e
                    · first
                      | (exfalso; omega)
                      | have v1 : (mid : Int) < (e : Int) := by omega
                        have v2 : decide ((e : Int) < (b : Int)) = false := decide_eq_false (by omega)
                        have v3 : decide (e < b) = false := decide_eq_false (by omega)
                        clear q2
                        go_wp2_with fail
                        go_end0
                        have HH := halves d d2 d2 a mid b (by omega) (by omega) (by omega) HX.out HP7.out HQ7.out (permIn_refl _ _ _) HS2.out
                        exact ⟨rfl, d2, S7', by omega, permIn_trans _ _ _ _ _ HP1.out HH.1, HH.2⟩
                    · first
                      | (exfalso; omega)
                      | have v1 : decide ((mid : Int) < (e : Int)) = false := decide_eq_false (by omega)
                        have v3 : decide (mid < e) = false := decide_eq_false (by omega)
                        clear q2
                        go_wp2_with fail
                        go_end0
                        have HH := halves d d2 d2 a mid b (by omega) (by omega) (by omega) HX.out HP7.out HQ7.out (permIn_refl _ _ _) HS2.out
                        exact ⟨rfl, d2, S7', by omega, permIn_trans _ _ _ _ _ HP1.out HH.1, HH.2⟩
                · have HS1 : Hid (SortedIn (ltOf cf) a mid d) := Lib.hid (sorted_one HRR.out.1 HRR.out.2.1 (by omega))
                  by_cases q4 : a < i
                  · first
                    | (exfalso; omega)
                    | have u1' : (a : Int) < (i : Int) := by omega
                      have u2' : decide ((i : Int) < (mid : Int)) = false := decide_eq_false (by omega)
                      have u3' : decide (i < mid) = false := decide_eq_false (by omega)
                      clear q1
                      have HR4 : SortedIn (ltOf cf) mid e d := fun i j x1 x2 x3 => by rw [((permIn_refl d a mid)).2.1 i (.inr x1), ((permIn_refl d a mid)).2.1 j (.inr (by omega))]; exact HRR.out.2.2.1 i j x1 x2 x3
                      have HR5 : SortedIn (ltOf cf) e b d := fun i j x1 x2 x3 => by rw [((permIn_refl d a mid)).2.1 i (.inr (by omega)), ((permIn_refl d a mid)).2.1 j (.inr (by omega))]; exact HRR.out.2.2.2 i j x1 x2 x3
                      have HZ := Lib.hid (And.intro HR4 HR5)
                      clear HR4 HR5
                      by_cases q2 : mid < e ∧ e < b
                      · obtain ⟨q2a, q2b⟩ := q2
                        have v1 : (mid : Int) < (e : Int) := by omega
                        have v2 : (e : Int) < (b : Int) := by omega
                        have SY2 := HI.out mid e b d wr (by omega) (by omega) S1 q2a q2b (by omega) (by omega) HZ.out.1 HZ.out.2
                        rw [show (d).size = d.size by omega] at SY2
                        have HSY2 := Lib.hid SY2
                        clear SY2
                        go_wp2_with fail
                        refine HSY2.out.mono ?_
                        rintro e8 w8 ⟨rfl, d3, S8, hs8, hp8, hq8⟩
                        have S8' : Aside (SW enc w0 blk off d3 w8) := S8
                        have HP8 := Lib.hid hp8
                        have HQ8 := Lib.hid hq8
                        have hs81 : d3.size ≤ d.size := by omega
                        clear S8 hs8 hp8 hq8 HSY2
                        have hs82 : d.size ≤ d3.size := by have := HP8.out.1; omega
                        go_wp2_with fail
                        go_end0
                        have HH := halves d d d3 a mid b (by omega) (by omega) (by omega) HX.out (permIn_refl d a mid) HS1.out HP8.out HQ8.out
                        exact ⟨rfl, d3, S8', by omega, permIn_trans _ _ _ _ _ HP1.out HH.1, HH.2⟩
                      · have HS2 : Hid (SortedIn (ltOf cf) mid b d) := Lib.hid (sorted_one HZ.out.1 HZ.out.2 (by omega))
                        by_cases q3 : mid < e
                        · first
                          | (exfalso; omega)
                          | have v1 : (mid : Int) < (e : Int) := by omega
                            have v2 : decide ((e : Int) < (b : Int)) = false := decide_eq_false (by omega)
                            have v3 : decide (e < b) = false := decide_eq_false (by omega)
                            clear q2
                            go_wp2_with fail
                            go_end0
                            have HH := halves d d d a mid b (by omega) (by omega) (by omega) HX.out (permIn_refl d a mid) HS1.out (permIn_refl _ _ _) HS2.out
                            exact ⟨rfl, d, S1, by omega, permIn_trans _ _ _ _ _ HP1.out HH.1, HH.2⟩
                        · first
                          | (exfalso; omega)
                          | have v1 : decide ((mid : Int) < (e : Int)) = false := decide_eq_false (by omega)
                            have v3 : decide (mid < e) = false := decide_eq_false (by omega)
                            clear q2
                            go_wp2_with fail
                            go_end0
                            have HH := halves d d d a mid b (by omega) (by omega) (by omega) HX.out (permIn_refl d a mid) HS1.out (permIn_refl _ _ _) HS2.out
                            exact ⟨rfl, d, S1, by omega, permIn_trans _ _ _ _ _ HP1.out HH.1, HH.2⟩
                  · first
                    | (exfalso; omega)
                    | have u1' : decide ((a : Int) < (i : Int)) = false := decide_eq_false (by omega)
                      have u3' : decide (a < i) = false := decide_eq_false (by omega)
                      clear q1
                      have HR4 : SortedIn (ltOf cf) mid e d := fun i j x1 x2 x3 => by rw [((permIn_refl d a mid)).2.1 i (.inr x1), ((permIn_refl d a mid)).2.1 j (.inr (by omega))]; exact HRR.out.2.2.1 i j x1 x2 x3
                      have HR5 : SortedIn (ltOf cf) e b d := fun i j x1 x2 x3 => by rw [((permIn_refl d a mid)).2.1 i (.inr (by omega)), ((permIn_refl d a mid)).2.1 j (.inr (by omega))]; exact HRR.out.2.2.2 i j x1 x2 x3
                      have HZ := Lib.hid (And.intro HR4 HR5)
                      clear HR4 HR5
                      by_cases q2 : mid < e ∧ e < b
                      · obtain ⟨q2a, q2b⟩ := q2
                        have v1 : (mid : Int) < (e : Int) := by omega
                        have v2 : (e : Int) < (b : Int) := by omega
                        have SY2 := HI.out mid e b d wr (by omega) (by omega) S1 q2a q2b (by omega) (by omega) HZ.out.1 HZ.out.2
                        rw [show (d).size = d.size by omega] at SY2
                        have HSY2 := Lib.hid SY2
                        clear SY2
                        go_wp2_with fail
                        refine HSY2.out.mono ?_
                        rintro e8 w8 ⟨rfl, d3, S8, hs8, hp8, hq8⟩
                        have S8' : Aside (SW enc w0 blk off d3 w8) := S8
                        have HP8 := Lib.hid hp8
                        have HQ8 := Lib.hid hq8
                        have hs81 : d3.size ≤ d.size := by omega
                        clear S8 hs8 hp8 hq8 HSY2
                        have hs82 : d.size ≤ d3.size := by have := HP8.out.1; omega
                        go_wp2_with fail
                        go_end0
                        have HH := halves d d d3 a mid b (by omega) (by omega) (by omega) HX.out (permIn_refl d a mid) HS1.out HP8.out HQ8.out
                        exact ⟨rfl, d3, S8', by omega, permIn_trans _ _ _ _ _ HP1.out HH.1, HH.2⟩
                      · have HS2 : Hid (SortedIn (ltOf cf) mid b d) := Lib.hid (sorted_one HZ.out.1 HZ.out.2 (by omega))
                        by_cases q3 : mid < e
                        · first
                          | (exfalso; omega)
                          | have v1 : (mid : Int) < (e : Int) := by omega
                            have v2 : decide ((e : Int) < (b : Int)) = false := decide_eq_false (by omega)
                            have v3 : decide (e < b) = false := decide_eq_false (by omega)
                            clear q2
                            go_wp2_with fail
                            go_end0
                            have HH := halves d d d a mid b (by omega) (by omega) (by omega) HX.out (permIn_refl d a mid) HS1.out (permIn_refl _ _ _) HS2.out
                            exact ⟨rfl, d, S1, by omega, permIn_trans _ _ _ _ _ HP1.out HH.1, HH.2⟩
                        · first
                          | (exfalso; omega)
                          | have v1 : decide ((mid : Int) < (e : Int)) = false := decide_eq_false (by omega)
                            have v3 : decide (mid < e) = false := decide_eq_false (by omega)
                            clear q2
                            go_wp2_with fail
                            go_end0
                            have HH := halves d d d a mid b (by omega) (by omega) (by omega) HX.out (permIn_refl d a mid) HS1.out (permIn_refl _ _ _) HS2.out
                            exact ⟨rfl, d, S1, by omega, permIn_trans _ _ _ _ _ HP1.out HH.1, HH.2⟩
            · first
              | (exfalso; omega)
              | have s1 : decide ((i : Int) < (m : Int)) = false := decide_eq_false (by omega)
                have s3 : decide (i < m) = false := decide_eq_false (by omega)
                clear q0
                obtain ⟨RU1, RU2, RU3, RU4, RU5⟩ := rot_runs hO d d a i m e b mid g1 g2 g4 g5 (by omega) HQ6.out HU.out HV.out HC5.out
                have HRR := Lib.hid (And.intro RU1 (And.intro RU2 (And.intro RU3 RU4)))
                have HX := Lib.hid RU5
                have HP1 : Hid (PermIn a b d d) := Lib.hid (permIn_mono d d i e a b g1 g5 hb (permIn_refl d i e))
                have hs11 : (d).size ≤ d.size := by have := HP1.out.1; omega
                have hs12 : d.size ≤ (d).size := by have := HP1.out.1; omega
                clear RU1 RU2 RU3 RU4 RU5
                by_cases q1 : a < i ∧ i < mid
                · obtain ⟨q1a, q1b⟩ := q1
                  have u1' : (a : Int) < (i : Int) := by omega
                  have u2' : (i : Int) < (mid : Int) := by omega
                  have SY := HI.out a i mid d wr (by omega) (by omega) S1 q1a q1b (by omega) (by omega) HRR.out.1 HRR.out.2.1
                  rw [show (d).size = d.size by omega] at SY
                  have HSY := Lib.hid SY
                  clear SY
                  go_wp2_with fail
                  refine HSY.out.mono ?_
                  rintro e7 w7 ⟨rfl, d2, S7, hs7, hp7, hq7⟩
                  have S7' : Aside (SW enc w0 blk off d2 w7) := S7
                  have HP7 := Lib.hid hp7
                  have HQ7 := Lib.hid hq7
                  have hs71 : d2.size ≤ d.size := by omega
                  clear S7 hs7 hp7 hq7 HSY
                  have hs72 : d.size ≤ d2.size := by have := HP7.out.1; omega
                  have HR4 : SortedIn (ltOf cf) mid e d2 := fun i j x1 x2 x3 => by rw [(HP7.out).2.1 i (.inr x1), (HP7.out).2.1 j (.inr (by omega))]; exact HRR.out.2.2.1 i j x1 x2 x3
                  have HR5 : SortedIn (ltOf cf) e b d2 := fun i j x1 x2 x3 => by rw [(HP7.out).2.1 i (.inr (by omega)), (HP7.out).2.1 j (.inr (by omega))]; exact HRR.out.2.2.2 i j x1 x2 x3
                  have HZ := Lib.hid (And.intro HR4 HR5)
                  clear HR4 HR5
                  by_cases q2 : mid < e ∧ e < b
                  · obtain ⟨q2a, q2b⟩ := q2
                    have v1 : (mid : Int) < (e : Int) := by omega
                    have v2 : (e : Int) < (b : Int) := by omega
                    have SY2 := HI.out mid e b d2 w7 (by omega) (by omega) S7' q2a q2b (by omega) (by omega) HZ.out.1 HZ.out.2
                    rw [show (d2).size = d.size by omega] at SY2
                    have HSY2 := Lib.hid SY2
                    clear SY2
                    go_wp2_with fail
                    refine HSY2.out.mono ?_
                    rintro e8 w8 ⟨rfl, d3, S8, hs8, hp8, hq8⟩
                    have S8' : Aside (SW enc w0 blk off d3 w8) := S8
                    have HP8 := Lib.hid hp8
                    have HQ8 := Lib.hid hq8
                    have hs81 : d3.size ≤ d.size := by omega
                    clear S8 hs8 hp8 hq8 HSY2
                    have hs82 : d.size ≤ d3.size := by have := HP8.out.1; omega
                    go_wp2_with fail
                    go_end0
                    have HH := halves d d2 d3 a mid b (by omega) (by omega) (by omega) HX.out HP7.out HQ7.out HP8.out HQ8.out
                    exact ⟨rfl, d3, S8', by omega, permIn_trans _ _ _ _ _ HP1.out HH.1, HH.2⟩
                  · have HS2 : Hid (SortedIn (ltOf cf) mid b d2) := Lib.hid (sorted_one HZ.out.1 HZ.out.2 (by omega))
                    by_cases q3 : mid < e
                    · first
                      | (exfalso; omega)
                      | have v1 : (mid : Int) < (e : Int) := by omega
                        have v2 : decide ((e : Int) < (b : Int)) = false := decide_eq_false (by omega)
                        have v3 : decide (e < b) = false := decide_eq_false (by omega)
                        clear q2
                        go_wp2_with fail
                        go_end0
                        have HH := halves d d2 d2 a mid b (by omega) (by omega) (by omega) HX.out HP7.out HQ7.out (permIn_refl _ _ _) HS2.out
                        exact ⟨rfl, d2, S7', by omega, permIn_trans _ _ _ _ _ HP1.out HH.1, HH.2⟩
                    · first
                      | (exfalso; omega)
                      | have v1 : decide ((mid : Int) < (e : Int)) = false := decide_eq_false (by omega)
                        have v3 : decide (mid < e) = false := decide_eq_false (by omega)
                        clear q2
                        go_wp2_with fail
                        go_end0
                        have HH := halves d d2 d2 a mid b (by omega) (by omega) (by omega) HX.out HP7.out HQ7.out (permIn_refl _ _ _) HS2.out
                        exact ⟨rfl, d2, S7', by omega, permIn_trans _ _ _ _ _ HP1.out HH.1, HH.2⟩
                · have HS1 : Hid (SortedIn (ltOf cf) a mid d) := Lib.hid (sorted_one HRR.out.1 HRR.out.2.1 (by omega))
                  by_cases q4 : a < i
                  · first
                    | (exfalso; omega)
                    | have u1' : (a : Int) < (i : Int) := by omega
                      have u2' : decide ((i : Int) < (mid : Int)) = false := decide_eq_false (by omega)
                      have u3' : decide (i < mid) = false := decide_eq_false (by omega)
                      clear q1
                      have HR4 : SortedIn (ltOf cf) mid e d := fun i j x1 x2 x3 => by rw [((permIn_refl d a mid)).2.1 i (.inr x1), ((permIn_refl d a mid)).2.1 j (.inr (by omega))]; exact HRR.out.2.2.1 i j x1 x2 x3
                      have HR5 : SortedIn (ltOf cf) e b d := fun i j x1 x2 x3 => by rw [((permIn_refl d a mid)).2.1 i (.inr (by omega)), ((permIn_refl d a mid)).2.1 j (.inr (by omega))]; exact HRR.out.2.2.2 i j x1 x2 x3
                      have HZ := Lib.hid (And.intro HR4 HR5)
                      clear HR4 HR5
                      by_cases q2 : mid < e ∧ e < b
                      · obtain ⟨q2a, q2b⟩ := q2
                        have v1 : (mid : Int) < (e : Int) := by omega
                        have v2 : (e : Int) < (b : Int) := by omega
                        have SY2 := HI.out mid e b d wr (by omega) (by omega) S1 q2a q2b (by omega) (by omega) HZ.out.1 HZ.out.2
                        rw [show (d).size = d.size by omega] at SY2
                        have HSY2 := Lib.hid SY2
                        clear SY2
                        go_wp2_with fail
                        refine HSY2.out.mono ?_
                        rintro e8 w8 ⟨rfl, d3, S8, hs8, hp8, hq8⟩
                        have S8' : Aside (SW enc w0 blk off d3 w8) := S8
                        have HP8 := Lib.hid hp8
                        have HQ8 := Lib.hid hq8
                        have hs81 : d3.size ≤ d.size := by omega
                        clear S8 hs8 hp8 hq8 HSY2
                        have hs82 : d.size ≤ d3.size := by have := HP8.out.1; omega
                        go_wp2_with fail
                        go_end0
                        have HH := halves d d d3 a mid b (by omega) (by omega) (by omega) HX.out (permIn_refl d a mid) HS1.out HP8.out HQ8.out
                        exact ⟨rfl, d3, S8', by omega, permIn_trans _ _ _ _ _ HP1.out HH.1, HH.2⟩
                      · have HS2 : Hid (SortedIn (ltOf cf) mid b d) := Lib.hid (sorted_one HZ.out.1 HZ.out.2 (by omega))
                        by_cases q3 : mid < e
                        · first
                          | (exfalso; omega)
                          | have v1 : (mid : Int) < (e : Int) := by omega
                            have v2 : decide ((e : Int) < (b : Int)) = false := decide_eq_false (by omega)
                            have v3 : decide (e < b) = false := decide_eq_false (by omega)
                            clear q2
                            go_wp2_with fail
                            go_end0
                            have HH := halves d d d a mid b (by omega) (by omega) (by omega) HX.out (permIn_refl d a mid) HS1.out (permIn_refl _ _ _) HS2.out
                            exact ⟨rfl, d, S1, by omega, permIn_trans _ _ _ _ _ HP1.out HH.1, HH.2⟩
                        · first
                          | (exfalso; omega)
                          | have v1 : decide ((mid : Int) < (e : Int)) = false := decide_eq_false (by omega)
                            have v3 : decide (mid < e) = false := decide_eq_false (by omega)
                            clear q2
                            go_wp2_with fail
                            go_end0
                            have HH := halves d d d a mid b (by omega) (by omega) (by omega) HX.out (permIn_refl d a mid) HS1.out (permIn_refl _ _ _) HS2.out
                            exact ⟨rfl, d, S1, by omega, permIn_trans _ _ _ _ _ HP1.out HH.1, HH.2⟩
                  · first
                    | (exfalso; omega)
                    | have u1' : decide ((a : Int) < (i : Int)) = false := decide_eq_false (by omega)
                      have u3' : decide (a < i) = false := decide_eq_false (by omega)
                      clear q1
                      have HR4 : SortedIn (ltOf cf) mid e d := fun i j x1 x2 x3 => by rw [((permIn_refl d a mid)).2.1 i (.inr x1), ((permIn_refl d a mid)).2.1 j (.inr (by omega))]; exact HRR.out.2.2.1 i j x1 x2 x3
                      have HR5 : SortedIn (ltOf cf) e b d := fun i j x1 x2 x3 => by rw [((permIn_refl d a mid)).2.1 i (.inr (by omega)), ((permIn_refl d a mid)).2.1 j (.inr (by omega))]; exact HRR.out.2.2.2 i j x1 x2 x3
                      have HZ := Lib.hid (And.intro HR4 HR5)
                      clear HR4 HR5
                      by_cases q2 : mid < e ∧ e < b
                      · obtain ⟨q2a, q2b⟩ := q2
                        have v1 : (mid : Int) < (e : Int) := by omega
                        have v2 : (e : Int) < (b : Int) := by omega
                        have SY2 := HI.out mid e b d wr (by omega) (by omega) S1 q2a q2b (by omega) (by omega) HZ.out.1 HZ.out.2
                        rw [show (d).size = d.size by omega] at SY2
                        have HSY2 := Lib.hid SY2
                        clear SY2
                        go_wp2_with fail
                        refine HSY2.out.mono ?_
                        rintro e8 w8 ⟨rfl, d3, S8, hs8, hp8, hq8⟩
                        have S8' : Aside (SW enc w0 blk off d3 w8) := S8
                        have HP8 := Lib.hid hp8
                        have HQ8 := Lib.hid hq8
                        have hs81 : d3.size ≤ d.size := by omega
                        clear S8 hs8 hp8 hq8 HSY2
                        have hs82 : d.size ≤ d3.size := by have := HP8.out.1; omega
                        go_wp2_with fail
                        go_end0
                        have HH := halves d d d3 a mid b (by omega) (by omega) (by omega) HX.out (permIn_refl d a mid) HS1.out HP8.out HQ8.out
                        exact ⟨rfl, d3, S8', by omega, permIn_trans _ _ _ _ _ HP1.out HH.1, HH.2⟩
                      · have HS2 : Hid (SortedIn (ltOf cf) mid b d) := Lib.hid (sorted_one HZ.out.1 HZ.out.2 (by omega))
                        by_cases q3 : mid < e
                        · first
                          | (exfalso; omega)
                          | have v1 : (mid : Int) < (e : Int) := by omega
                            have v2 : decide ((e : Int) < (b : Int)) = false := decide_eq_false (by omega)
                            have v3 : decide (e < b) = false := decide_eq_false (by omega)
                            clear q2
                            go_wp2_with fail
                            go_end0
                            have HH := halves d d d a mid b (by omega) (by omega) (by omega) HX.out (permIn_refl d a mid) HS1.out (permIn_refl _ _ _) HS2.out
                            exact ⟨rfl, d, S1, by omega, permIn_trans _ _ _ _ _ HP1.out HH.1, HH.2⟩
                        · first
                          | (exfalso; omega)
                          | have v1 : decide ((mid : Int) < (e : Int)) = false := decide_eq_false (by omega)
                            have v3 : decide (mid < e) = false := decide_eq_false (by omega)
                            clear q2
                            go_wp2_with fail
                            go_end0
                            have HH := halves d d d a mid b (by omega) (by omega) (by omega) HX.out (permIn_refl d a mid) HS1.out (permIn_refl _ _ _) HS2.out
                            exact ⟨rfl, d, S1, by omega, permIn_trans _ _ _ _ _ HP1.out HH.1, HH.2⟩
    · obtain ⟨lo, hlo1, hlo2⟩ : ∃ lo, lo ≤ a ∧ a ≤ lo := ⟨a, Nat.le_refl _, Nat.le_refl _⟩
      obtain ⟨hi, hhi1, hhi2⟩ : ∃ hi, hi ≤ m ∧ m ≤ hi := ⟨m, Nat.le_refl _, Nat.le_refl _⟩
      have HLO : Hid (lo = if mid < m then mid + m - b else a) := Lib.hid (by rw [if_neg hmm]; omega)
      have HHI : Hid (hi = if mid < m then mid else m) := Lib.hid (by rw [if_neg hmm]; omega)
      have t1 : decide ((mid : Int) < (m : Int)) = false := decide_eq_false (by omega)
      have t1' : decide (mid < m) = false := decide_eq_false (by omega)
      have hlh : lo ≤ hi := by omega
      go_enter Try.func15, Try.ntmps15
      go_wp2_with fail
      go_loopw [20, 21] (fun vi vj wr => ∃ i j : Nat, vi = .int .i64 (i : Int) ∧ vj = .int .i64 (j : Int) ∧ lo ≤ i ∧ i ≤ j ∧ j ≤ hi ∧ Aside (SW enc w0 blk off d wr) ∧ Hid (i = lo ∨ ltOf cf d[mid + m - i]! d[i - 1]! = false) ∧ Hid (j = hi ∨ ltOf cf d[mid + m - 1 - j]! d[j]! = true)) (fun vi vj _ => (intOf vj).toNat - (intOf vi).toNat)
      case atStart => exact ⟨lo, hi, by first | rfl | go_num, by first | rfl | go_num, Nat.le_refl _, by omega, Nat.le_refl _, S0, Lib.hid (.inl rfl), Lib.hid (.inl rfl)⟩
      case round =>
        clear S0
        obtain ⟨i, j, rfl, rfl, hai, hij, hjb, S1, HL, HR⟩ := hrel
        rcases Nat.lt_or_ge i j with hlt | hge
        · have k1 : (i : Int) < (j : Int) := by omega
          go_wp2_with fail
          cases hlv : ltOf cf d[mid + m - 1 - (i + j) / 2]! d[(i + j) / 2]! with
          | true =>
            have HT := Lib.hid hlv
            obtain ⟨iN, hiN⟩ : ∃ zq, zq = (mid + m - 1 - (i + j) / 2) := ⟨_, rfl⟩
            obtain ⟨jN, hjN⟩ : ∃ zq, zq = ((i + j) / 2) := ⟨_, rfl⟩
            have ea : (((mid : Int) + (m : Int) - 1 - ((i : Int) + (j : Int)) / 2)).toNat = iN := by omega
            have pa : (0 : Int) ≤ ((mid : Int) + (m : Int) - 1 - ((i : Int) + (j : Int)) / 2) := by omega
            have ba : ((mid : Int) + (m : Int) - 1 - ((i : Int) + (j : Int)) / 2) < (d.size : Int) := by omega
            have ra : IntKind.i64.wrap (((mid : Int) + (m : Int) - 1 - ((i : Int) + (j : Int)) / 2)) = (iN : Int) := by rw [IntKind.wrap_i64]; omega
            have bn : (iN : Int) < (d.size : Int) := by omega
            have eb : ((((i : Int) + (j : Int)) / 2)).toNat = jN := by omega
            have pb : (0 : Int) ≤ (((i : Int) + (j : Int)) / 2) := by omega
            have bb : (((i : Int) + (j : Int)) / 2) < (d.size : Int) := by omega
            have rb : IntKind.i64.wrap ((((i : Int) + (j : Int)) / 2)) = (((i : Int) + (j : Int)) / 2) := by rw [IntKind.wrap_i64]; omega
            obtain ⟨xv, hxv⟩ : ∃ zq, zq = d[(mid + m - 1 - (i + j) / 2)]! := ⟨_, rfl⟩
            obtain ⟨yv, hyv⟩ : ∃ zq, zq = d[((i + j) / 2)]! := ⟨_, rfl⟩
            have la := S1.out.cl R (by omega) ((mid + m - 1 - (i + j) / 2)) (by omega)
            have lb := S1.out.cl R (by omega) (((i + j) / 2)) (by omega)
            rw [← hxv, ← hiN] at la
            rw [← hyv, ← hjN] at lb
            have hc := S1.out.cmp HC.out (by omega) xv yv
            have hv : ltOf cf xv yv = true := by rw [hxv, hyv]; exact hlv
            have hd : decide (cf xv yv < 0) = true := hv
            clear hxv hyv hiN hjN hv
            go_wp2_with fail
            go_quiet_grown (first | (go_at_fn k; refine Calls.grown_of (hc _ _)))
            have S2 : Aside (SW enc w0 blk off d (grow (wr.drewN nq) osq)) := S1.out.grown nq osq
            clear la lb hc S1
            generalize grow (wr.drewN nq) osq = w2 at S2 ⊢
            clear nq osq
            clear ea eb
            clear hlv
            go_wp2_with fail
            go_roundw
            case rel => exact ⟨i, (i + j) / 2, rfl, by first | rfl | go_num | (congr 1), hai, by omega, by omega, S2, HL, Lib.hid (.inr HT.out)⟩
            case measure => simp [intOf]; omega
          | false =>
            have HT : Hid (ltOf cf d[mid + m - ((i + j) / 2 + 1)]! d[(i + j) / 2]! = false) := Lib.hid (by rw [← hlv]; congr 2; omega)
            obtain ⟨iN, hiN⟩ : ∃ zq, zq = (mid + m - 1 - (i + j) / 2) := ⟨_, rfl⟩
            obtain ⟨jN, hjN⟩ : ∃ zq, zq = ((i + j) / 2) := ⟨_, rfl⟩
            have ea : (((mid : Int) + (m : Int) - 1 - ((i : Int) + (j : Int)) / 2)).toNat = iN := by omega
            have pa : (0 : Int) ≤ ((mid : Int) + (m : Int) - 1 - ((i : Int) + (j : Int)) / 2) := by omega
            have ba : ((mid : Int) + (m : Int) - 1 - ((i : Int) + (j : Int)) / 2) < (d.size : Int) := by omega
            have ra : IntKind.i64.wrap (((mid : Int) + (m : Int) - 1 - ((i : Int) + (j : Int)) / 2)) = (iN : Int) := by rw [IntKind.wrap_i64]; omega
            have bn : (iN : Int) < (d.size : Int) := by omega
            have eb : ((((i : Int) + (j : Int)) / 2)).toNat = jN := by omega
            have pb : (0 : Int) ≤ (((i : Int) + (j : Int)) / 2) := by omega
            have bb : (((i : Int) + (j : Int)) / 2) < (d.size : Int) := by omega
            have rb : IntKind.i64.wrap ((((i : Int) + (j : Int)) / 2)) = (((i : Int) + (j : Int)) / 2) := by rw [IntKind.wrap_i64]; omega
            obtain ⟨xv, hxv⟩ : ∃ zq, zq = d[(mid + m - 1 - (i + j) / 2)]! := ⟨_, rfl⟩
            obtain ⟨yv, hyv⟩ : ∃ zq, zq = d[((i + j) / 2)]! := ⟨_, rfl⟩
            have la := S1.out.cl R (by omega) ((mid + m - 1 - (i + j) / 2)) (by omega)
            have lb := S1.out.cl R (by omega) (((i + j) / 2)) (by omega)
            rw [← hxv, ← hiN] at la
            rw [← hyv, ← hjN] at lb
            have hc := S1.out.cmp HC.out (by omega) xv yv
            have hv : ltOf cf xv yv = false := by rw [hxv, hyv]; exact hlv
            have hd : decide (cf xv yv < 0) = false := hv
            clear hxv hyv hiN hjN hv
            go_wp2_with fail
            go_quiet_grown (first | (go_at_fn k; refine Calls.grown_of (hc _ _)))
            have S2 : Aside (SW enc w0 blk off d (grow (wr.drewN nq) osq)) := S1.out.grown nq osq
            clear la lb hc S1
            generalize grow (wr.drewN nq) osq = w2 at S2 ⊢
            clear nq osq
            clear ea eb
            clear hlv
            go_wp2_with fail
            go_roundw
            case rel => exact ⟨(i + j) / 2 + 1, j, by first | rfl | go_num | (congr 1), rfl, by omega, by omega, hjb, S2, Lib.hid (.inr HT.out), HR⟩
            case measure => simp [intOf]; omega
        · have k1 : decide ((i : Int) < (j : Int)) = false := decide_eq_false (by omega)
          obtain rfl : i = j := by omega
          obtain ⟨g1, g2, g3, g4, g5, g6⟩ := sym_cross hO d a m b mid lo hi i HMID.out ham hmb HLO.out HHI.out hai hjb HL.out HR.out HU.out HV.out
          obtain ⟨e, he1, he2⟩ : ∃ e, e ≤ mid + m - i ∧ mid + m - i ≤ e := ⟨mid + m - i, Nat.le_refl _, Nat.le_refl _⟩
          have HE : Hid (mid + m - i = e) := Lib.hid (by omega)
          rw [HE.out] at g4 g5 g6
          have HC5 := Lib.hid g6
          have y1 : IntKind.i64.wrap ((mid : Int) + (m : Int) - (i : Int)) = (e : Int) := by rw [IntKind.wrap_i64]; omega
          clear g6 HL HR
          by_cases q0 : i < m ∧ m < e
          · obtain ⟨q0a, q0b⟩ := q0
            have s1 : (i : Int) < (m : Int) := by omega
            have s2 : (m : Int) < (e : Int) := by omega
            have HRO := Lib.hid (rotate_any enc k cb blk off cap i m e d0 d w0 wr R hs S1 q0a q0b (by omega) hsz)
            clear S1
            go_wp2_with fail
            refine HRO.out.mono ?_
            rintro e6 w6 ⟨rfl, d1, S6, hq6, hs6, hp6⟩
            have S6' : Aside (SW enc w0 blk off d1 w6) := S6
            have HQ6 := Lib.hid hq6
            have HP6 := Lib.hid hp6
            clear S6 hq6 hs6 hp6 HRO
            obtain ⟨RU1, RU2, RU3, RU4, RU5⟩ := rot_runs hO d d1 a i m e b mid g1 g2 g4 g5 (by omega) HQ6.out HU.out HV.out HC5.out
            have HRR := Lib.hid (And.intro RU1 (And.intro RU2 (And.intro RU3 RU4)))
            have HX := Lib.hid RU5
            have HP1 : Hid (PermIn a b d d1) := Lib.hid (permIn_mono d d1 i e a b g1 g5 hb HP6.out)
            have hs11 : (d1).size ≤ d.size := by have := HP1.out.1; omega
            have hs12 : d.size ≤ (d1).size := by have := HP1.out.1; omega
            clear RU1 RU2 RU3 RU4 RU5
            by_cases q1 : a < i ∧ i < mid
            · obtain ⟨q1a, q1b⟩ := q1
              have u1' : (a : Int) < (i : Int) := by omega
              have u2' : (i : Int) < (mid : Int) := by omega
              have SY := HI.out a i mid d1 w6 (by omega) (by omega) S6' q1a q1b (by omega) (by omega) HRR.out.1 HRR.out.2.1
              rw [show (d1).size = d.size by omega] at SY
              have HSY := Lib.hid SY
              clear SY
              go_wp2_with fail
              refine HSY.out.mono ?_
              rintro e7 w7 ⟨rfl, d2, S7, hs7, hp7, hq7⟩
              have S7' : Aside (SW enc w0 blk off d2 w7) := S7
              have HP7 := Lib.hid hp7
              have HQ7 := Lib.hid hq7
              have hs71 : d2.size ≤ d.size := by omega
              clear S7 hs7 hp7 hq7 HSY
              have hs72 : d.size ≤ d2.size := by have := HP7.out.1; omega
              have HR4 : SortedIn (ltOf cf) mid e d2 := fun i j x1 x2 x3 => by rw [(HP7.out).2.1 i (.inr x1), (HP7.out).2.1 j (.inr (by omega))]; exact HRR.out.2.2.1 i j x1 x2 x3
              have HR5 : SortedIn (ltOf cf) e b d2 := fun i j x1 x2 x3 => by rw [(HP7.out).2.1 i (.inr (by omega)), (HP7.out).2.1 j (.inr (by omega))]; exact HRR.out.2.2.2 i j x1 x2 x3
              have HZ := Lib.hid (And.intro HR4 HR5)
              clear HR4 HR5
              by_cases q2 : mid < e ∧ e < b
              · obtain ⟨q2a, q2b⟩ := q2
                have v1 : (mid : Int) < (e : Int) := by omega
                have v2 : (e : Int) < (b : Int) := by omega
                have SY2 := HI.out mid e b d2 w7 (by omega) (by omega) S7' q2a q2b (by omega) (by omega) HZ.out.1 HZ.out.2
                rw [show (d2).size = d.size by omega] at SY2
                have HSY2 := Lib.hid SY2
                clear SY2
                go_wp2_with fail
                refine HSY2.out.mono ?_
                rintro e8 w8 ⟨rfl, d3, S8, hs8, hp8, hq8⟩
                have S8' : Aside (SW enc w0 blk off d3 w8) := S8
                have HP8 := Lib.hid hp8
                have HQ8 := Lib.hid hq8
                have hs81 : d3.size ≤ d.size := by omega
                clear S8 hs8 hp8 hq8 HSY2
                have hs82 : d.size ≤ d3.size := by have := HP8.out.1; omega
                go_wp2_with fail
                go_end0
                have HH := halves d1 d2 d3 a mid b (by omega) (by omega) (by omega) HX.out HP7.out HQ7.out HP8.out HQ8.out
                exact ⟨rfl, d3, S8', by omega, permIn_trans _ _ _ _ _ HP1.out HH.1, HH.2⟩
              · have HS2 : Hid (SortedIn (ltOf cf) mid b d2) := Lib.hid (sorted_one HZ.out.1 HZ.out.2 (by omega))
                by_cases q3 : mid < e
                · first
                  | (exfalso; omega)
                  | have v1 : (mid : Int) < (e : Int) := by omega
                    have v2 : decide ((e : Int) < (b : Int)) = false := decide_eq_false (by omega)
                    have v3 : decide (e < b) = false := decide_eq_false (by omega)
                    clear q2
                    go_wp2_with fail
                    go_end0
                    have HH := halves d1 d2 d2 a mid b (by omega) (by omega) (by omega) HX.out HP7.out HQ7.out (permIn_refl _ _ _) HS2.out
                    exact ⟨rfl, d2, S7', by omega, permIn_trans _ _ _ _ _ HP1.out HH.1, HH.2⟩
                · first
                  | (exfalso; omega)
                  | have v1 : decide ((mid : Int) < (e : Int)) = false := decide_eq_false (by omega)
                    have v3 : decide (mid < e) = false := decide_eq_false (by omega)
                    clear q2
                    go_wp2_with fail
                    go_end0
                    have HH := halves d1 d2 d2 a mid b (by omega) (by omega) (by omega) HX.out HP7.out HQ7.out (permIn_refl _ _ _) HS2.out
                    exact ⟨rfl, d2, S7', by omega, permIn_trans _ _ _ _ _ HP1.out HH.1, HH.2⟩
            · have HS1 : Hid (SortedIn (ltOf cf) a mid d1) := Lib.hid (sorted_one HRR.out.1 HRR.out.2.1 (by omega))
              by_cases q4 : a < i
              · first
                | (exfalso; omega)
                | have u1' : (a : Int) < (i : Int) := by omega
                  have u2' : decide ((i : Int) < (mid : Int)) = false := decide_eq_false (by omega)
                  have u3' : decide (i < mid) = false := decide_eq_false (by omega)
                  clear q1
                  have HR4 : SortedIn (ltOf cf) mid e d1 := fun i j x1 x2 x3 => by rw [((permIn_refl d1 a mid)).2.1 i (.inr x1), ((permIn_refl d1 a mid)).2.1 j (.inr (by omega))]; exact HRR.out.2.2.1 i j x1 x2 x3
                  have HR5 : SortedIn (ltOf cf) e b d1 := fun i j x1 x2 x3 => by rw [((permIn_refl d1 a mid)).2.1 i (.inr (by omega)), ((permIn_refl d1 a mid)).2.1 j (.inr (by omega))]; exact HRR.out.2.2.2 i j x1 x2 x3
                  have HZ := Lib.hid (And.intro HR4 HR5)
                  clear HR4 HR5
                  by_cases q2 : mid < e ∧ e < b
                  · obtain ⟨q2a, q2b⟩ := q2
                    have v1 : (mid : Int) < (e : Int) := by omega
                    have v2 : (e : Int) < (b : Int) := by omega
                    have SY2 := HI.out mid e b d1 w6 (by omega) (by omega) S6' q2a q2b (by omega) (by omega) HZ.out.1 HZ.out.2
                    rw [show (d1).size = d.size by omega] at SY2
                    have HSY2 := Lib.hid SY2
                    clear SY2
                    go_wp2_with fail
                    refine HSY2.out.mono ?_
                    rintro e8 w8 ⟨rfl, d3, S8, hs8, hp8, hq8⟩
                    have S8' : Aside (SW enc w0 blk off d3 w8) := S8
                    have HP8 := Lib.hid hp8
                    have HQ8 := Lib.hid hq8
                    have hs81 : d3.size ≤ d.size := by omega
                    clear S8 hs8 hp8 hq8 HSY2
                    have hs82 : d.size ≤ d3.size := by have := HP8.out.1; omega
                    go_wp2_with fail
                    go_end0
                    have HH := halves d1 d1 d3 a mid b (by omega) (by omega) (by omega) HX.out (permIn_refl d1 a mid) HS1.out HP8.out HQ8.out
                    exact ⟨rfl, d3, S8', by omega, permIn_trans _ _ _ _ _ HP1.out HH.1, HH.2⟩
                  · have HS2 : Hid (SortedIn (ltOf cf) mid b d1) := Lib.hid (sorted_one HZ.out.1 HZ.out.2 (by omega))
                    by_cases q3 : mid < e
                    · first
                      | (exfalso; omega)
                      | have v1 : (mid : Int) < (e : Int) := by omega
                        have v2 : decide ((e : Int) < (b : Int)) = false := decide_eq_false (by omega)
                        have v3 : decide (e < b) = false := decide_eq_false (by omega)
                        clear q2
                        go_wp2_with fail
                        go_end0
                        have HH := halves d1 d1 d1 a mid b (by omega) (by omega) (by omega) HX.out (permIn_refl d1 a mid) HS1.out (permIn_refl _ _ _) HS2.out
                        exact ⟨rfl, d1, S6', by omega, permIn_trans _ _ _ _ _ HP1.out HH.1, HH.2⟩
                    · first
                      | (exfalso; omega)
                      | have v1 : decide ((mid : Int) < (e : Int)) = false := decide_eq_false (by omega)
                        have v3 : decide (mid < e) = false := decide_eq_false (by omega)
                        clear q2
                        go_wp2_with fail
                        go_end0
                        have HH := halves d1 d1 d1 a mid b (by omega) (by omega) (by omega) HX.out (permIn_refl d1 a mid) HS1.out (permIn_refl _ _ _) HS2.out
                        exact ⟨rfl, d1, S6', by omega, permIn_trans _ _ _ _ _ HP1.out HH.1, HH.2⟩
              · first
                | (exfalso; omega)
                | have u1' : decide ((a : Int) < (i : Int)) = false := decide_eq_false (by omega)
                  have u3' : decide (a < i) = false := decide_eq_false (by omega)
                  clear q1
                  have HR4 : SortedIn (ltOf cf) mid e d1 := fun i j x1 x2 x3 => by rw [((permIn_refl d1 a mid)).2.1 i (.inr x1), ((permIn_refl d1 a mid)).2.1 j (.inr (by omega))]; exact HRR.out.2.2.1 i j x1 x2 x3
                  have HR5 : SortedIn (ltOf cf) e b d1 := fun i j x1 x2 x3 => by rw [((permIn_refl d1 a mid)).2.1 i (.inr (by omega)), ((permIn_refl d1 a mid)).2.1 j (.inr (by omega))]; exact HRR.out.2.2.2 i j x1 x2 x3
                  have HZ := Lib.hid (And.intro HR4 HR5)
                  clear HR4 HR5
                  by_cases q2 : mid < e ∧ e < b
                  · obtain ⟨q2a, q2b⟩ := q2
                    have v1 : (mid : Int) < (e : Int) := by omega
                    have v2 : (e : Int) < (b : Int) := by omega
                    have SY2 := HI.out mid e b d1 w6 (by omega) (by omega) S6' q2a q2b (by omega) (by omega) HZ.out.1 HZ.out.2
                    rw [show (d1).size = d.size by omega] at SY2
                    have HSY2 := Lib.hid SY2
                    clear SY2
                    go_wp2_with fail
                    refine HSY2.out.mono ?_
                    rintro e8 w8 ⟨rfl, d3, S8, hs8, hp8, hq8⟩
                    have S8' : Aside (SW enc w0 blk off d3 w8) := S8
                    have HP8 := Lib.hid hp8
                    have HQ8 := Lib.hid hq8
                    have hs81 : d3.size ≤ d.size := by omega
                    clear S8 hs8 hp8 hq8 HSY2
                    have hs82 : d.size ≤ d3.size := by have := HP8.out.1; omega
                    go_wp2_with fail
                    go_end0
                    have HH := halves d1 d1 d3 a mid b (by omega) (by omega) (by omega) HX.out (permIn_refl d1 a mid) HS1.out HP8.out HQ8.out
                    exact ⟨rfl, d3, S8', by omega, permIn_trans _ _ _ _ _ HP1.out HH.1, HH.2⟩
                  · have HS2 : Hid (SortedIn (ltOf cf) mid b d1) := Lib.hid (sorted_one HZ.out.1 HZ.out.2 (by omega))
                    by_cases q3 : mid < e
                    · first
                      | (exfalso; omega)
                      | have v1 : (mid : Int) < (e : Int) := by omega
                        have v2 : decide ((e : Int) < (b : Int)) = false := decide_eq_false (by omega)
                        have v3 : decide (e < b) = false := decide_eq_false (by omega)
                        clear q2
                        go_wp2_with fail
                        go_end0
                        have HH := halves d1 d1 d1 a mid b (by omega) (by omega) (by omega) HX.out (permIn_refl d1 a mid) HS1.out (permIn_refl _ _ _) HS2.out
                        exact ⟨rfl, d1, S6', by omega, permIn_trans _ _ _ _ _ HP1.out HH.1, HH.2⟩
                    · first
                      | (exfalso; omega)
                      | have v1 : decide ((mid : Int) < (e : Int)) = false := decide_eq_false (by omega)
                        have v3 : decide (mid < e) = false := decide_eq_false (by omega)
                        clear q2
                        go_wp2_with fail
                        go_end0
                        have HH := halves d1 d1 d1 a mid b (by omega) (by omega) (by omega) HX.out (permIn_refl d1 a mid) HS1.out (permIn_refl _ _ _) HS2.out
                        exact ⟨rfl, d1, S6', by omega, permIn_trans _ _ _ _ _ HP1.out HH.1, HH.2⟩
          · have HQ6 : Hid (∀ q, d[q]! = rotAt d i m e q) := Lib.hid (fun q => by
              rcases Nat.lt_or_ge i m with r | r
              · obtain rfl : m = e := by omega
                exact (rot_none_right d i m (by omega) q).symm
              · obtain rfl : i = m := by omega
                exact (rot_none_left d i e (by omega) q).symm)
            by_cases q5 : i < m
            · first
              | (exfalso; omega)
              | have s1 : (i : Int) < (m : Int) := by omega
                have s2 : decide ((m : Int) < (e : Int)) = false := decide_eq_false (by omega)
                have s3 : decide (m < e) = false := decide_eq_false (by omega)
                clear q0
                obtain ⟨RU1, RU2, RU3, RU4, RU5⟩ := rot_runs hO d d a i m e b mid g1 g2 g4 g5 (by omega) HQ6.out HU.out HV.out HC5.out
                have HRR := Lib.hid (And.intro RU1 (And.intro RU2 (And.intro RU3 RU4)))
                have HX := Lib.hid RU5
                have HP1 : Hid (PermIn a b d d) := Lib.hid (permIn_mono d d i e a b g1 g5 hb (permIn_refl d i e))
                have hs11 : (d).size ≤ d.size := by have := HP1.out.1; omega
                have hs12 : d.size ≤ (d).size := by have := HP1.out.1; omega
                clear RU1 RU2 RU3 RU4 RU5
                by_cases q1 : a < i ∧ i < mid
                · obtain ⟨q1a, q1b⟩ := q1
                  have u1' : (a : Int) < (i : Int) := by omega
                  have u2' : (i : Int) < (mid : Int) := by omega
                  have SY := HI.out a i mid d wr (by omega) (by omega) S1 q1a q1b (by omega) (by omega) HRR.out.1 HRR.out.2.1
                  rw [show (d).size = d.size by omega] at SY
                  have HSY := Lib.hid SY
                  clear SY
                  go_wp2_with fail
                  refine HSY.out.mono ?_
                  rintro e7 w7 ⟨rfl, d2, S7, hs7, hp7, hq7⟩
                  have S7' : Aside (SW enc w0 blk off d2 w7) := S7
                  have HP7 := Lib.hid hp7
                  have HQ7 := Lib.hid hq7
                  have hs71 : d2.size ≤ d.size := by omega
                  clear S7 hs7 hp7 hq7 HSY
                  have hs72 : d.size ≤ d2.size := by have := HP7.out.1; omega
                  have HR4 : SortedIn (ltOf cf) mid e d2 := fun i j x1 x2 x3 => by rw [(HP7.out).2.1 i (.inr x1), (HP7.out).2.1 j (.inr (by omega))]; exact HRR.out.2.2.1 i j x1 x2 x3
                  have HR5 : SortedIn (ltOf cf) e b d2 := fun i j x1 x2 x3 => by rw [(HP7.out).2.1 i (.inr (by omega)), (HP7.out).2.1 j (.inr (by omega))]; exact HRR.out.2.2.2 i j x1 x2 x3
                  have HZ := Lib.hid (And.intro HR4 HR5)
                  clear HR4 HR5
                  by_cases q2 : mid < e ∧ e < b
                  · obtain ⟨q2a, q2b⟩ := q2
                    have v1 : (mid : Int) < (e : Int) := by omega
                    have v2 : (e : Int) < (b : Int) := by omega
                    have SY2 := HI.out mid e b d2 w7 (by omega) (by omega) S7' q2a q2b (by omega) (by omega) HZ.out.1 HZ.out.2
                    rw [show (d2).size = d.size by omega] at SY2
                    have HSY2 := Lib.hid SY2
                    clear SY2
                    go_wp2_with fail
                    refine HSY2.out.mono ?_
                    rintro e8 w8 ⟨rfl, d3, S8, hs8, hp8, hq8⟩
                    have S8' : Aside (SW enc w0 blk off d3 w8) := S8
                    have HP8 := Lib.hid hp8
                    have HQ8 := Lib.hid hq8
                    have hs81 : d3.size ≤ d.size := by omega
                    clear S8 hs8 hp8 hq8 HSY2
                    have hs82 : d.size ≤ d3.size := by have := HP8.out.1; omega
                    go_wp2_with fail
                    go_end0
                    have HH := halves d d2 d3 a mid b (by omega) (by omega) (by omega) HX.out HP7.out HQ7.out HP8.out HQ8.out
                    exact ⟨rfl, d3, S8', by omega, permIn_trans _ _ _ _ _ HP1.out HH.1, HH.2⟩
                  · have HS2 : Hid (SortedIn (ltOf cf) mid b d2) := Lib.hid (sorted_one HZ.out.1 HZ.out.2 (by omega))
                    by_cases q3 : mid < e
                    · first
                      | (exfalso; omega)
                      | have v1 : (mid : Int) < (e : Int) := by omega
                        have v2 : decide ((e : Int) < (b : Int)) = false := decide_eq_false (by omega)
                        have v3 : decide (e < b) = false := decide_eq_false (by omega)
                        clear q2
                        go_wp2_with fail
                        go_end0
                        have HH := halves d d2 d2 a mid b (by omega) (by omega) (by omega) HX.out HP7.out HQ7.out (permIn_refl _ _ _) HS2.out
                        exact ⟨rfl, d2, S7', by omega, permIn_trans _ _ _ _ _ HP1.out HH.1, HH.2⟩
                    · first
                      | (exfalso; omega)
                      | have v1 : decide ((mid : Int) < (e : Int)) = false := decide_eq_false (by omega)
                        have v3 : decide (mid < e) = false := decide_eq_false (by omega)
                        clear q2
                        go_wp2_with fail
                        go_end0
                        have HH := halves d d2 d2 a mid b (by omega) (by omega) (by omega) HX.out HP7.out HQ7.out (permIn_refl _ _ _) HS2.out
                        exact ⟨rfl, d2, S7', by omega, permIn_trans _ _ _ _ _ HP1.out HH.1, HH.2⟩
                · have HS1 : Hid (SortedIn (ltOf cf) a mid d) := Lib.hid (sorted_one HRR.out.1 HRR.out.2.1 (by omega))
                  by_cases q4 : a < i
                  · first
                    | (exfalso; omega)
                    | have u1' : (a : Int) < (i : Int) := by omega
                      have u2' : decide ((i : Int) < (mid : Int)) = false := decide_eq_false (by omega)
                      have u3' : decide (i < mid) = false := decide_eq_false (by omega)
                      clear q1
                      have HR4 : SortedIn (ltOf cf) mid e d := fun i j x1 x2 x3 => by rw [((permIn_refl d a mid)).2.1 i (.inr x1), ((permIn_refl d a mid)).2.1 j (.inr (by omega))]; exact HRR.out.2.2.1 i j x1 x2 x3
                      have HR5 : SortedIn (ltOf cf) e b d := fun i j x1 x2 x3 => by rw [((permIn_refl d a mid)).2.1 i (.inr (by omega)), ((permIn_refl d a mid)).2.1 j (.inr (by omega))]; exact HRR.out.2.2.2 i j x1 x2 x3
                      have HZ := Lib.hid (And.intro HR4 HR5)
                      clear HR4 HR5
                      by_cases q2 : mid < e ∧ e < b
                      · obtain ⟨q2a, q2b⟩ := q2
                        have v1 : (mid : Int) < (e : Int) := by omega
                        have v2 : (e : Int) < (b : Int) := by omega
                        have SY2 := HI.out mid e b d wr (by omega) (by omega) S1 q2a q2b (by omega) (by omega) HZ.out.1 HZ.out.2
                        rw [show (d).size = d.size by omega] at SY2
                        have HSY2 := Lib.hid SY2
                        clear SY2
                        go_wp2_with fail
                        refine HSY2.out.mono ?_
                        rintro e8 w8 ⟨rfl, d3, S8, hs8, hp8, hq8⟩
                        have S8' : Aside (SW enc w0 blk off d3 w8) := S8
                        have HP8 := Lib.hid hp8
                        have HQ8 := Lib.hid hq8
                        have hs81 : d3.size ≤ d.size := by omega
                        clear S8 hs8 hp8 hq8 HSY2
                        have hs82 : d.size ≤ d3.size := by have := HP8.out.1; omega
                        go_wp2_with fail
                        go_end0
                        have HH := halves d d d3 a mid b (by omega) (by omega) (by omega) HX.out (permIn_refl d a mid) HS1.out HP8.out HQ8.out
                        exact ⟨rfl, d3, S8', by omega, permIn_trans _ _ _ _ _ HP1.out HH.1, HH.2⟩
                      · have HS2 : Hid (SortedIn (ltOf cf) mid b d) := Lib.hid (sorted_one HZ.out.1 HZ.out.2 (by omega))
                        by_cases q3 : mid < e
                        · first
                          | (exfalso; omega)
                          | have v1 : (mid : Int) < (e : Int) := by omega
                            have v2 : decide ((e : Int) < (b : Int)) = false := decide_eq_false (by omega)
                            have v3 : decide (e < b) = false := decide_eq_false (by omega)
                            clear q2
                            go_wp2_with fail
                            go_end0
                            have HH := halves d d d a mid b (by omega) (by omega) (by omega) HX.out (permIn_refl d a mid) HS1.out (permIn_refl _ _ _) HS2.out
                            exact ⟨rfl, d, S1, by omega, permIn_trans _ _ _ _ _ HP1.out HH.1, HH.2⟩
                        · first
                          | (exfalso; omega)
                          | have v1 : decide ((mid : Int) < (e : Int)) = false := decide_eq_false (by omega)
                            have v3 : decide (mid < e) = false := decide_eq_false (by omega)
                            clear q2
                            go_wp2_with fail
                            go_end0
                            have HH := halves d d d a mid b (by omega) (by omega) (by omega) HX.out (permIn_refl d a mid) HS1.out (permIn_refl _ _ _) HS2.out
                            exact ⟨rfl, d, S1, by omega, permIn_trans _ _ _ _ _ HP1.out HH.1, HH.2⟩
                  · first
                    | (exfalso; omega)
                    | have u1' : decide ((a : Int) < (i : Int)) = false := decide_eq_false (by omega)
                      have u3' : decide (a < i) = false := decide_eq_false (by omega)
                      clear q1
                      have HR4 : SortedIn (ltOf cf) mid e d := fun i j x1 x2 x3 => by rw [((permIn_refl d a mid)).2.1 i (.inr x1), ((permIn_refl d a mid)).2.1 j (.inr (by omega))]; exact HRR.out.2.2.1 i j x1 x2 x3
                      have HR5 : SortedIn (ltOf cf) e b d := fun i j x1 x2 x3 => by rw [((permIn_refl d a mid)).2.1 i (.inr (by omega)), ((permIn_refl d a mid)).2.1 j (.inr (by omega))]; exact HRR.out.2.2.2 i j x1 x2 x3
                      have HZ := Lib.hid (And.intro HR4 HR5)
                      clear HR4 HR5
                      by_cases q2 : mid < e ∧ e < b
                      · obtain ⟨q2a, q2b⟩ := q2
                        have v1 : (mid : Int) < (e : Int) := by omega
                        have v2 : (e : Int) < (b : Int) := by omega
                        have SY2 := HI.out mid e b d wr (by omega) (by omega) S1 q2a q2b (by omega) (by omega) HZ.out.1 HZ.out.2
                        rw [show (d).size = d.size by omega] at SY2
                        have HSY2 := Lib.hid SY2
                        clear SY2
                        go_wp2_with fail
                        refine HSY2.out.mono ?_
                        rintro e8 w8 ⟨rfl, d3, S8, hs8, hp8, hq8⟩
                        have S8' : Aside (SW enc w0 blk off d3 w8) := S8
                        have HP8 := Lib.hid hp8
                        have HQ8 := Lib.hid hq8
                        have hs81 : d3.size ≤ d.size := by omega
                        clear S8 hs8 hp8 hq8 HSY2
                        have hs82 : d.size ≤ d3.size := by have := HP8.out.1; omega
                        go_wp2_with fail
                        go_end0
                        have HH := halves d d d3 a mid b (by omega) (by omega) (by omega) HX.out (permIn_refl d a mid) HS1.out HP8.out HQ8.out
                        exact ⟨rfl, d3, S8', by omega, permIn_trans _ _ _ _ _ HP1.out HH.1, HH.2⟩
                      · have HS2 : Hid (SortedIn (ltOf cf) mid b d) := Lib.hid (sorted_one HZ.out.1 HZ.out.2 (by omega))
                        by_cases q3 : mid < e
                        · first
                          | (exfalso; omega)
                          | have v1 : (mid : Int) < (e : Int) := by omega
                            have v2 : decide ((e : Int) < (b : Int)) = false := decide_eq_false (by omega)
                            have v3 : decide (e < b) = false := decide_eq_false (by omega)
                            clear q2
                            go_wp2_with fail
                            go_end0
                            have HH := halves d d d a mid b (by omega) (by omega) (by omega) HX.out (permIn_refl d a mid) HS1.out (permIn_refl _ _ _) HS2.out
                            exact ⟨rfl, d, S1, by omega, permIn_trans _ _ _ _ _ HP1.out HH.1, HH.2⟩
                        · first
                          | (exfalso; omega)
                          | have v1 : decide ((mid : Int) < (e : Int)) = false := decide_eq_false (by omega)
                            have v3 : decide (mid < e) = false := decide_eq_false (by omega)
                            clear q2
                            go_wp2_with fail
                            go_end0
                            have HH := halves d d d a mid b (by omega) (by omega) (by omega) HX.out (permIn_refl d a mid) HS1.out (permIn_refl _ _ _) HS2.out
                            exact ⟨rfl, d, S1, by omega, permIn_trans _ _ _ _ _ HP1.out HH.1, HH.2⟩
            · first
              | (exfalso; omega)
              | have s1 : decide ((i : Int) < (m : Int)) = false := decide_eq_false (by omega)
                have s3 : decide (i < m) = false := decide_eq_false (by omega)
                clear q0
                obtain ⟨RU1, RU2, RU3, RU4, RU5⟩ := rot_runs hO d d a i m e b mid g1 g2 g4 g5 (by omega) HQ6.out HU.out HV.out HC5.out
                have HRR := Lib.hid (And.intro RU1 (And.intro RU2 (And.intro RU3 RU4)))
                have HX := Lib.hid RU5
                have HP1 : Hid (PermIn a b d d) := Lib.hid (permIn_mono d d i e a b g1 g5 hb (permIn_refl d i e))
                have hs11 : (d).size ≤ d.size := by have := HP1.out.1; omega
                have hs12 : d.size ≤ (d).size := by have := HP1.out.1; omega
                clear RU1 RU2 RU3 RU4 RU5
                by_cases q1 : a < i ∧ i < mid
                · obtain ⟨q1a, q1b⟩ := q1
                  have u1' : (a : Int) < (i : Int) := by omega
                  have u2' : (i : Int) < (mid : Int) := by omega
                  have SY := HI.out a i mid d wr (by omega) (by omega) S1 q1a q1b (by omega) (by omega) HRR.out.1 HRR.out.2.1
                  rw [show (d).size = d.size by omega] at SY
                  have HSY := Lib.hid SY
                  clear SY
                  go_wp2_with fail
                  refine HSY.out.mono ?_
                  rintro e7 w7 ⟨rfl, d2, S7, hs7, hp7, hq7⟩
                  have S7' : Aside (SW enc w0 blk off d2 w7) := S7
                  have HP7 := Lib.hid hp7
                  have HQ7 := Lib.hid hq7
                  have hs71 : d2.size ≤ d.size := by omega
                  clear S7 hs7 hp7 hq7 HSY
                  have hs72 : d.size ≤ d2.size := by have := HP7.out.1; omega
                  have HR4 : SortedIn (ltOf cf) mid e d2 := fun i j x1 x2 x3 => by rw [(HP7.out).2.1 i (.inr x1), (HP7.out).2.1 j (.inr (by omega))]; exact HRR.out.2.2.1 i j x1 x2 x3
                  have HR5 : SortedIn (ltOf cf) e b d2 := fun i j x1 x2 x3 => by rw [(HP7.out).2.1 i (.inr (by omega)), (HP7.out).2.1 j (.inr (by omega))]; exact HRR.out.2.2.2 i j x1 x2 x3
                  have HZ := Lib.hid (And.intro HR4 HR5)
                  clear HR4 HR5
                  by_cases q2 : mid < e ∧ e < b
                  · obtain ⟨q2a, q2b⟩ := q2
                    have v1 : (mid : Int) < (e : Int) := by omega
                    have v2 : (e : Int) < (b : Int) := by omega
                    have SY2 := HI.out mid e b d2 w7 (by omega) (by omega) S7' q2a q2b (by omega) (by omega) HZ.out.1 HZ.out.2
                    rw [show (d2).size = d.size by omega] at SY2
                    have HSY2 := Lib.hid SY2
                    clear SY2
                    go_wp2_with fail
                    refine HSY2.out.mono ?_
                    rintro e8 w8 ⟨rfl, d3, S8, hs8, hp8, hq8⟩
                    have S8' : Aside (SW enc w0 blk off d3 w8) := S8
                    have HP8 := Lib.hid hp8
                    have HQ8 := Lib.hid hq8
                    have hs81 : d3.size ≤ d.size := by omega
                    clear S8 hs8 hp8 hq8 HSY2
                    have hs82 : d.size ≤ d3.size := by have := HP8.out.1; omega
                    go_wp2_with fail
                    go_end0
                    have HH := halves d d2 d3 a mid b (by omega) (by omega) (by omega) HX.out HP7.out HQ7.out HP8.out HQ8.out
                    exact ⟨rfl, d3, S8', by omega, permIn_trans _ _ _ _ _ HP1.out HH.1, HH.2⟩
                  · have HS2 : Hid (SortedIn (ltOf cf) mid b d2) := Lib.hid (sorted_one HZ.out.1 HZ.out.2 (by omega))
                    by_cases q3 : mid < e
                    · first
                      | (exfalso; omega)
                      | have v1 : (mid : Int) < (e : Int) := by omega
                        have v2 : decide ((e : Int) < (b : Int)) = false := decide_eq_false (by omega)
                        have v3 : decide (e < b) = false := decide_eq_false (by omega)
                        clear q2
                        go_wp2_with fail
                        go_end0
                        have HH := halves d d2 d2 a mid b (by omega) (by omega) (by omega) HX.out HP7.out HQ7.out (permIn_refl _ _ _) HS2.out
                        exact ⟨rfl, d2, S7', by omega, permIn_trans _ _ _ _ _ HP1.out HH.1, HH.2⟩
                    · first
                      | (exfalso; omega)
                      | have v1 : decide ((mid : Int) < (e : Int)) = false := decide_eq_false (by omega)
                        have v3 : decide (mid < e) = false := decide_eq_false (by omega)
                        clear q2
                        go_wp2_with fail
                        go_end0
                        have HH := halves d d2 d2 a mid b (by omega) (by omega) (by omega) HX.out HP7.out HQ7.out (permIn_refl _ _ _) HS2.out
                        exact ⟨rfl, d2, S7', by omega, permIn_trans _ _ _ _ _ HP1.out HH.1, HH.2⟩
                · have HS1 : Hid (SortedIn (ltOf cf) a mid d) := Lib.hid (sorted_one HRR.out.1 HRR.out.2.1 (by omega))
                  by_cases q4 : a < i
                  · first
                    | (exfalso; omega)
                    | have u1' : (a : Int) < (i : Int) := by omega
                      have u2' : decide ((i : Int) < (mid : Int)) = false := decide_eq_false (by omega)
                      have u3' : decide (i < mid) = false := decide_eq_false (by omega)
                      clear q1
                      have HR4 : SortedIn (ltOf cf) mid e d := fun i j x1 x2 x3 => by rw [((permIn_refl d a mid)).2.1 i (.inr x1), ((permIn_refl d a mid)).2.1 j (.inr (by omega))]; exact HRR.out.2.2.1 i j x1 x2 x3
                      have HR5 : SortedIn (ltOf cf) e b d := fun i j x1 x2 x3 => by rw [((permIn_refl d a mid)).2.1 i (.inr (by omega)), ((permIn_refl d a mid)).2.1 j (.inr (by omega))]; exact HRR.out.2.2.2 i j x1 x2 x3
                      have HZ := Lib.hid (And.intro HR4 HR5)
                      clear HR4 HR5
                      by_cases q2 : mid < e ∧ e < b
                      · obtain ⟨q2a, q2b⟩ := q2
                        have v1 : (mid : Int) < (e : Int) := by omega
                        have v2 : (e : Int) < (b : Int) := by omega
                        have SY2 := HI.out mid e b d wr (by omega) (by omega) S1 q2a q2b (by omega) (by omega) HZ.out.1 HZ.out.2
                        rw [show (d).size = d.size by omega] at SY2
                        have HSY2 := Lib.hid SY2
                        clear SY2
                        go_wp2_with fail
                        refine HSY2.out.mono ?_
                        rintro e8 w8 ⟨rfl, d3, S8, hs8, hp8, hq8⟩
                        have S8' : Aside (SW enc w0 blk off d3 w8) := S8
                        have HP8 := Lib.hid hp8
                        have HQ8 := Lib.hid hq8
                        have hs81 : d3.size ≤ d.size := by omega
                        clear S8 hs8 hp8 hq8 HSY2
                        have hs82 : d.size ≤ d3.size := by have := HP8.out.1; omega
                        go_wp2_with fail
                        go_end0
                        have HH := halves d d d3 a mid b (by omega) (by omega) (by omega) HX.out (permIn_refl d a mid) HS1.out HP8.out HQ8.out
                        exact ⟨rfl, d3, S8', by omega, permIn_trans _ _ _ _ _ HP1.out HH.1, HH.2⟩
                      · have HS2 : Hid (SortedIn (ltOf cf) mid b d) := Lib.hid (sorted_one HZ.out.1 HZ.out.2 (by omega))
                        by_cases q3 : mid < e
                        · first
                          | (exfalso; omega)
                          | have v1 : (mid : Int) < (e : Int) := by omega
                            have v2 : decide ((e : Int) < (b : Int)) = false := decide_eq_false (by omega)
                            have v3 : decide (e < b) = false := decide_eq_false (by omega)
                            clear q2
                            go_wp2_with fail
                            go_end0
                            have HH := halves d d d a mid b (by omega) (by omega) (by omega) HX.out (permIn_refl d a mid) HS1.out (permIn_refl _ _ _) HS2.out
                            exact ⟨rfl, d, S1, by omega, permIn_trans _ _ _ _ _ HP1.out HH.1, HH.2⟩
                        · first
                          | (exfalso; omega)
                          | have v1 : decide ((mid : Int) < (e : Int)) = false := decide_eq_false (by omega)
                            have v3 : decide (mid < e) = false := decide_eq_false (by omega)
                            clear q2
                            go_wp2_with fail
                            go_end0
                            have HH := halves d d d a mid b (by omega) (by omega) (by omega) HX.out (permIn_refl d a mid) HS1.out (permIn_refl _ _ _) HS2.out
                            exact ⟨rfl, d, S1, by omega, permIn_trans _ _ _ _ _ HP1.out HH.1, HH.2⟩
                  · first
                    | (exfalso; omega)
                    | have u1' : decide ((a : Int) < (i : Int)) = false := decide_eq_false (by omega)
                      have u3' : decide (a < i) = false := decide_eq_false (by omega)
                      clear q1
                      have HR4 : SortedIn (ltOf cf) mid e d := fun i j x1 x2 x3 => by rw [((permIn_refl d a mid)).2.1 i (.inr x1), ((permIn_refl d a mid)).2.1 j (.inr (by omega))]; exact HRR.out.2.2.1 i j x1 x2 x3
                      have HR5 : SortedIn (ltOf cf) e b d := fun i j x1 x2 x3 => by rw [((permIn_refl d a mid)).2.1 i (.inr (by omega)), ((permIn_refl d a mid)).2.1 j (.inr (by omega))]; exact HRR.out.2.2.2 i j x1 x2 x3
                      have HZ := Lib.hid (And.intro HR4 HR5)
                      clear HR4 HR5
                      by_cases q2 : mid < e ∧ e < b
                      · obtain ⟨q2a, q2b⟩ := q2
                        have v1 : (mid : Int) < (e : Int) := by omega
                        have v2 : (e : Int) < (b : Int) := by omega
                        have SY2 := HI.out mid e b d wr (by omega) (by omega) S1 q2a q2b (by omega) (by omega) HZ.out.1 HZ.out.2
                        rw [show (d).size = d.size by omega] at SY2
                        have HSY2 := Lib.hid SY2
                        clear SY2
                        go_wp2_with fail
                        refine HSY2.out.mono ?_
                        rintro e8 w8 ⟨rfl, d3, S8, hs8, hp8, hq8⟩
                        have S8' : Aside (SW enc w0 blk off d3 w8) := S8
                        have HP8 := Lib.hid hp8
                        have HQ8 := Lib.hid hq8
                        have hs81 : d3.size ≤ d.size := by omega
                        clear S8 hs8 hp8 hq8 HSY2
                        have hs82 : d.size ≤ d3.size := by have := HP8.out.1; omega
                        go_wp2_with fail
                        go_end0
                        have HH := halves d d d3 a mid b (by omega) (by omega) (by omega) HX.out (permIn_refl d a mid) HS1.out HP8.out HQ8.out
                        exact ⟨rfl, d3, S8', by omega, permIn_trans _ _ _ _ _ HP1.out HH.1, HH.2⟩
                      · have HS2 : Hid (SortedIn (ltOf cf) mid b d) := Lib.hid (sorted_one HZ.out.1 HZ.out.2 (by omega))
                        by_cases q3 : mid < e
                        · first
                          | (exfalso; omega)
                          | have v1 : (mid : Int) < (e : Int) := by omega
                            have v2 : decide ((e : Int) < (b : Int)) = false := decide_eq_false (by omega)
                            have v3 : decide (e < b) = false := decide_eq_false (by omega)
                            clear q2
                            go_wp2_with fail
                            go_end0
                            have HH := halves d d d a mid b (by omega) (by omega) (by omega) HX.out (permIn_refl d a mid) HS1.out (permIn_refl _ _ _) HS2.out
                            exact ⟨rfl, d, S1, by omega, permIn_trans _ _ _ _ _ HP1.out HH.1, HH.2⟩
                        · first
                          | (exfalso; omega)
                          | have v1 : decide ((mid : Int) < (e : Int)) = false := decide_eq_false (by omega)
                            have v3 : decide (mid < e) = false := decide_eq_false (by omega)
                            clear q2
                            go_wp2_with fail
                            go_end0
                            have HH := halves d d d a mid b (by omega) (by omega) (by omega) HX.out (permIn_refl d a mid) HS1.out (permIn_refl _ _ _) HS2.out
                            exact ⟨rfl, d, S1, by omega, permIn_trans _ _ _ _ _ HP1.out HH.1, HH.2⟩
end
end Go.Proofs.Ytpjpckhmjonehaa
