/-
  The walk of the sort library's symMerge, at elements of one cell, from a world of the sort's to a world of the sort's.
-/
import Derived.Test.YtpjpckhmjonehaaSymS
namespace Go.Proofs.Ytpjpckhmjonehaa
open Go.RowKit Go.Shelf Go.Sort
set_option linter.unusedVariables false
set_option linter.unusedSimpArgs false

section
variable {α : Type} [Inhabited α]
def SymPost (enc : α → Value) (cf : α → α → Int) (w0 : World) (blk off : Nat) (d : Array α) (a b : Nat) (e : Ending) (w' : World) : Prop :=
  e = .returned (.tuple #[]) ∧ ∃ d' : Array α, SW enc w0 blk off d' w' ∧ d'.size = d.size ∧ PermIn a b d d' ∧ SortedIn (ltOf cf) a b d'
set_option maxHeartbeats 16000000 in
set_option maxRecDepth 1000000 in
theorem symOne_any (enc : α → Value) (cf : α → α → Int) (hO : SWO (ltOf cf)) (k : Nat) (cb : Array Value) (blk off cap : Nat) (d0 : Array α) (w0 : World) (R : Row1 enc w0 blk off d0)
    (eg : ∀ args w, (callFunc k args).run Try.prog w = .ok (.enter k args) w) (hcmp : CmpLays1 Try.prog k cb enc cf blk off d0.size w0) :
    ∀ (a m b : Nat) (d : Array α) (w : World), (m ≤ a + 1 ∨ b ≤ m + 1) → d0.size = d.size → SW enc w0 blk off d w → a < m → m < b → b ≤ d.size → d.size ≤ 1000000 → SortedIn (ltOf cf) a m d → SortedIn (ltOf cf) m b d →
      Calls Try.prog 15 #[.slice (some ⟨blk, off, none⟩) d.size cap, .int .i64 (a : Int), .int .i64 (m : Int), .int .i64 (b : Int), .func (.func k) #[] cb] w (SymPost enc cf w0 blk off d a b) := by
  intro a m b d w hone hs S ham hmb hb hsz hu hv
  have HU := Lib.hid hu
  have HV := Lib.hid hv
  have HC : Aside _ := hcmp
  have hcl0 := R.hO.cells
  simp only [Value.cells] at hcl0
  have hst := R.hO.store Try.prog
  have mixed : Try.prog.follows Departure.mixedOrders = true := by kernel_rfl
  have S0 : Aside (SW enc w0 blk off d w) := S
  clear S hu hv hcmp
  by_cases h1 : m ≤ a + 1
  · have EM : Hid (m = a + 1) := Lib.hid (by omega)
    have z1 : ((1 : Int) == 1) = true := rfl
    have z2 : IntKind.i64.wrap ((m : Int) - (a : Int)) = 1 := by rw [IntKind.wrap_i64]; omega
    go_enter Try.func15, Try.ntmps15
    go_wp2_with fail
    go_loopw [10, 11] (fun vi vj wr => ∃ i j : Nat, vi = .int .i64 (i : Int) ∧ vj = .int .i64 (j : Int) ∧ m ≤ i ∧ i ≤ j ∧ j ≤ b ∧ Aside (SW enc w0 blk off d wr) ∧ Hid (i = m ∨ ltOf cf d[i - 1]! d[a]! = true) ∧ Hid (j = b ∨ ltOf cf d[j]! d[a]! = false)) (fun vi vj _ => (intOf vj).toNat - (intOf vi).toNat)
    case atStart => exact ⟨m, b, rfl, rfl, Nat.le_refl _, by omega, Nat.le_refl _, S0, Lib.hid (.inl rfl), Lib.hid (.inl rfl)⟩
    case round =>
      clear S0
      obtain ⟨i, j, rfl, rfl, hai, hij, hjb, S1, HL, HR⟩ := hrel
      rcases Nat.lt_or_ge i j with hlt | hge
      · have k1 : (i : Int) < (j : Int) := by omega
        go_wp2_with fail
        cases hlv : ltOf cf d[(i + j) / 2]! d[a]! with
        | true =>
          have HT := Lib.hid hlv
          obtain ⟨iN, hiN⟩ : ∃ zq, zq = ((i + j) / 2) := ⟨_, rfl⟩
          obtain ⟨jN, hjN⟩ : ∃ zq, zq = a := ⟨_, rfl⟩
          have ea : ((((i : Int) + (j : Int)) / 2)).toNat = iN := by omega
          have pa : (0 : Int) ≤ (((i : Int) + (j : Int)) / 2) := by omega
          have ba : (((i : Int) + (j : Int)) / 2) < (d.size : Int) := by omega
          have ra : IntKind.i64.wrap ((((i : Int) + (j : Int)) / 2)) = (((i : Int) + (j : Int)) / 2) := by rw [IntKind.wrap_i64]; omega
          have eb : ((a : Int)).toNat = jN := by omega
          have pb : (0 : Int) ≤ (a : Int) := by omega
          have bb : (a : Int) < (d.size : Int) := by omega
          have rb : IntKind.i64.wrap ((a : Int)) = (a : Int) := by rw [IntKind.wrap_i64]; omega
          obtain ⟨xv, hxv⟩ : ∃ zq, zq = d[((i + j) / 2)]! := ⟨_, rfl⟩
          obtain ⟨yv, hyv⟩ : ∃ zq, zq = d[a]! := ⟨_, rfl⟩
          have la := S1.out.cl R (by omega) (((i + j) / 2)) (by omega)
          have lb := S1.out.cl R (by omega) (a) (by omega)
          rw [← hxv, ← hiN] at la
          rw [← hyv, ← hjN] at lb
          have hc := S1.out.cmp HC.out (by omega) xv yv
          have hv : ltOf cf xv yv = true := by rw [hxv, hyv]; exact hlv
          have hd : decide (cf xv yv < 0) = true := hv
          clear hxv hyv hiN hjN hv
          go_wp2_with fail
          go_quiet_grown (first | (go_at_fn k; refine Calls.grown_of (hc _ _)))
          have S2 : Aside (SW enc w0 blk off d (grow (wr.drewN nq) osq)) := S1.out.grown nq osq
          clear la lb hc S1
          generalize grow (wr.drewN nq) osq = w2 at S2 ⊢
          clear nq osq
          clear ea eb
          clear hlv
          go_wp2_with fail
          go_roundw
          case rel => exact ⟨(i + j) / 2 + 1, j, by first | rfl | go_num | (congr 1), rfl, by omega, by omega, hjb, S2, Lib.hid (.inr HT.out), HR⟩
          case measure => simp [intOf]; omega
        | false =>
          have HT := Lib.hid hlv
          obtain ⟨iN, hiN⟩ : ∃ zq, zq = ((i + j) / 2) := ⟨_, rfl⟩
          obtain ⟨jN, hjN⟩ : ∃ zq, zq = a := ⟨_, rfl⟩
          have ea : ((((i : Int) + (j : Int)) / 2)).toNat = iN := by omega
          have pa : (0 : Int) ≤ (((i : Int) + (j : Int)) / 2) := by omega
          have ba : (((i : Int) + (j : Int)) / 2) < (d.size : Int) := by omega
          have ra : IntKind.i64.wrap ((((i : Int) + (j : Int)) / 2)) = (((i : Int) + (j : Int)) / 2) := by rw [IntKind.wrap_i64]; omega
          have eb : ((a : Int)).toNat = jN := by omega
          have pb : (0 : Int) ≤ (a : Int) := by omega
          have bb : (a : Int) < (d.size : Int) := by omega
          have rb : IntKind.i64.wrap ((a : Int)) = (a : Int) := by rw [IntKind.wrap_i64]; omega
          obtain ⟨xv, hxv⟩ : ∃ zq, zq = d[((i + j) / 2)]! := ⟨_, rfl⟩
          obtain ⟨yv, hyv⟩ : ∃ zq, zq = d[a]! := ⟨_, rfl⟩
          have la := S1.out.cl R (by omega) (((i + j) / 2)) (by omega)
          have lb := S1.out.cl R (by omega) (a) (by omega)
          rw [← hxv, ← hiN] at la
          rw [← hyv, ← hjN] at lb
          have hc := S1.out.cmp HC.out (by omega) xv yv
          have hv : ltOf cf xv yv = false := by rw [hxv, hyv]; exact hlv
          have hd : decide (cf xv yv < 0) = false := hv
          clear hxv hyv hiN hjN hv
          go_wp2_with fail
          go_quiet_grown (first | (go_at_fn k; refine Calls.grown_of (hc _ _)))
          have S2 : Aside (SW enc w0 blk off d (grow (wr.drewN nq) osq)) := S1.out.grown nq osq
          clear la lb hc S1
          generalize grow (wr.drewN nq) osq = w2 at S2 ⊢
          clear nq osq
          clear ea eb
          clear hlv
          go_wp2_with fail
          go_roundw
          case rel => exact ⟨i, (i + j) / 2, rfl, by first | rfl | go_num | (congr 1), hai, by omega, by omega, S2, HL, Lib.hid (.inr HT.out)⟩
          case measure => simp [intOf]; omega
      · have k1 : decide ((i : Int) < (j : Int)) = false := decide_eq_false (by omega)
        obtain rfl : i = j := by omega
        go_wp2_with fail
        go_loopw [13] (fun vk wr => ∃ (t : Nat) (dk : Array α), vk = .int .i64 (t : Int) ∧ a ≤ t ∧ t + 1 ≤ i ∧ dk.size ≤ d.size ∧ d.size ≤ dk.size ∧ Aside (SW enc w0 blk off dk wr) ∧ Aside (∀ q, dk[q]! = rotAt d a (a + 1) (t + 1) q) ∧ Aside (PermIn a b d dk)) (fun vk _ => i - (intOf vk).toNat)
        case atStart => exact ⟨a, d, rfl, Nat.le_refl _, by omega, Nat.le_refl _, Nat.le_refl _, S1, fun q => (rot_none_right d a (a + 1) (by omega) q).symm, permIn_refl _ _ _⟩
        case round =>
          clear S1
          obtain ⟨t, dk, rfl, hat, hti, hd1, hd2, S3, HQ, HP⟩ := hrel
          rcases Nat.lt_or_ge (t + 1) i with hlt2 | hge2
          · have k2 : (t : Int) < (i : Int) - 1 := by omega
            go_wp2_with fail
            obtain ⟨iN, hiN⟩ : ∃ zq, zq = t := ⟨_, rfl⟩
            obtain ⟨jN, hjN⟩ : ∃ zq, zq = (t + 1) := ⟨_, rfl⟩
            have ea : ((t : Int)).toNat = iN := by omega
            have pa : (0 : Int) ≤ (t : Int) := by omega
            have ba : (t : Int) < (d.size : Int) := by omega
            have ra : IntKind.i64.wrap ((t : Int)) = (t : Int) := by rw [IntKind.wrap_i64]; omega
            have eb : (((t : Int) + 1)).toNat = jN := by omega
            have pb : (0 : Int) ≤ ((t : Int) + 1) := by omega
            have bb : ((t : Int) + 1) < (d.size : Int) := by omega
            have rb : IntKind.i64.wrap (((t : Int) + 1)) = ((t : Int) + 1) := by rw [IntKind.wrap_i64]; omega
            obtain ⟨xv, hxv⟩ : ∃ zq, zq = dk[t]! := ⟨_, rfl⟩
            obtain ⟨yv, hyv⟩ : ∃ zq, zq = dk[(t + 1)]! := ⟨_, rfl⟩
            have S2 : Aside (SW enc w0 blk off (swp dk (t) ((t + 1))) ((wr.setCell ⟨blk, off + iN, none⟩ (enc yv)).setCell ⟨blk, off + jN, none⟩ (enc xv)).drew) := by rw [hiN, hjN, hxv, hyv]; exact S3.out.swapped R (t) ((t + 1)) (by omega) (by omega)
            have ca := S3.out.c1 R (by omega) (t) (by omega)
            have cb9 := S3.out.c1 R (by omega) ((t + 1)) (by omega)
            have fa := S3.out.f1 R (by omega) (t) (by omega)
            have fb := S3.out.f1 R (by omega) ((t + 1)) (by omega)
            obtain ⟨uv, cc⟩ := S3.out.c2 R (by omega) (t) ((t + 1)) (by omega) (by omega) (enc yv)
            rw [← hjN, ← hiN] at cc
            rw [← hxv, ← hiN] at ca
            rw [← hyv, ← hjN] at cb9
            rw [← hiN] at fa
            rw [← hjN] at fb
            clear S3 hxv hyv hiN hjN
            go_wp2_with fail
            go_big_region_o
            clear ca cb9 cc fa fb
            generalize ((wr.setCell ⟨blk, off + iN, none⟩ (enc yv)).setCell ⟨blk, off + jN, none⟩ (enc xv)).drew = w2 at S2 ⊢
            clear ea eb
            go_wp2_with fail
            refine ⟨⟨t + 1, swp dk t (t + 1), by go_num, by omega, by omega, by rw [size_swp]; exact hd1, by rw [size_swp]; exact hd2, S2, ?_, ?_⟩, by simp [intOf]; omega⟩
            · exact rot_up d dk a t hat (by omega) (by omega) HQ
            · exact permIn_trans _ _ _ _ _ HP (swp_permIn dk a b t (t + 1) hat (by omega) (by omega) (by omega) (by omega))
          · have k2 : decide ((t : Int) < (i : Int) - 1) = false := decide_eq_false (by omega)
            obtain rfl : t + 1 = i := by omega
            go_wp2_with fail
            go_end0
            exact ⟨rfl, dk, S3, by omega, HP, one_left hO d dk a (t + 1) b (by omega) hjb HQ (by rw [← EM.out]; exact HV.out) (by rw [← EM.out]; exact HL.out) HR.out⟩
  · obtain ⟨ma, hma1, hma2⟩ : ∃ ma, m ≤ a + ma ∧ a + ma ≤ m := ⟨m - a, by omega, by omega⟩
    have z1 : ((ma : Int) == 1) = false := by rw [beq_eq_false_iff_ne]; omega
    have z2 : IntKind.i64.wrap ((m : Int) - (a : Int)) = (ma : Int) := by rw [IntKind.wrap_i64]; omega
    by_cases h2 : b ≤ m + 1
    · have EB : Hid (b = m + 1) := Lib.hid (by omega)
      have z3 : ((1 : Int) == 1) = true := rfl
      have z4 : IntKind.i64.wrap ((b : Int) - (m : Int)) = 1 := by rw [IntKind.wrap_i64]; omega
      go_enter Try.func15, Try.ntmps15
      go_wp2_with fail
      go_loopw [14, 15] (fun vi vj wr => ∃ i j : Nat, vi = .int .i64 (i : Int) ∧ vj = .int .i64 (j : Int) ∧ a ≤ i ∧ i ≤ j ∧ j ≤ m ∧ Aside (SW enc w0 blk off d wr) ∧ Hid (i = a ∨ ltOf cf d[m]! d[i - 1]! = false) ∧ Hid (j = m ∨ ltOf cf d[m]! d[j]! = true)) (fun vi vj _ => (intOf vj).toNat - (intOf vi).toNat)
      case atStart => exact ⟨a, m, rfl, rfl, Nat.le_refl _, by omega, Nat.le_refl _, S0, Lib.hid (.inl rfl), Lib.hid (.inl rfl)⟩
      case round =>
        clear S0
        obtain ⟨i, j, rfl, rfl, hai, hij, hjb, S1, HL, HR⟩ := hrel
        rcases Nat.lt_or_ge i j with hlt | hge
        · have k1 : (i : Int) < (j : Int) := by omega
          go_wp2_with fail
          cases hlv : ltOf cf d[m]! d[(i + j) / 2]! with
          | true =>
            have HT := Lib.hid hlv
            obtain ⟨iN, hiN⟩ : ∃ zq, zq = m := ⟨_, rfl⟩
            obtain ⟨jN, hjN⟩ : ∃ zq, zq = ((i + j) / 2) := ⟨_, rfl⟩
            have ea : ((m : Int)).toNat = iN := by omega
            have pa : (0 : Int) ≤ (m : Int) := by omega
            have ba : (m : Int) < (d.size : Int) := by omega
            have ra : IntKind.i64.wrap ((m : Int)) = (m : Int) := by rw [IntKind.wrap_i64]; omega
            have eb : ((((i : Int) + (j : Int)) / 2)).toNat = jN := by omega
            have pb : (0 : Int) ≤ (((i : Int) + (j : Int)) / 2) := by omega
            have bb : (((i : Int) + (j : Int)) / 2) < (d.size : Int) := by omega
            have rb : IntKind.i64.wrap ((((i : Int) + (j : Int)) / 2)) = (((i : Int) + (j : Int)) / 2) := by rw [IntKind.wrap_i64]; omega
            obtain ⟨xv, hxv⟩ : ∃ zq, zq = d[m]! := ⟨_, rfl⟩
            obtain ⟨yv, hyv⟩ : ∃ zq, zq = d[((i + j) / 2)]! := ⟨_, rfl⟩
            have la := S1.out.cl R (by omega) (m) (by omega)
            have lb := S1.out.cl R (by omega) (((i + j) / 2)) (by omega)
            rw [← hxv, ← hiN] at la
            rw [← hyv, ← hjN] at lb
            have hc := S1.out.cmp HC.out (by omega) xv yv
            have hv : ltOf cf xv yv = true := by rw [hxv, hyv]; exact hlv
            have hd : decide (cf xv yv < 0) = true := hv
            clear hxv hyv hiN hjN hv
            go_wp2_with fail
            go_quiet_grown (first | (go_at_fn k; refine Calls.grown_of (hc _ _)))
            have S2 : Aside (SW enc w0 blk off d (grow (wr.drewN nq) osq)) := S1.out.grown nq osq
            clear la lb hc S1
            generalize grow (wr.drewN nq) osq = w2 at S2 ⊢
            clear nq osq
            clear ea eb
            clear hlv
            go_wp2_with fail
            go_roundw
            case rel => exact ⟨i, (i + j) / 2, rfl, by first | rfl | go_num | (congr 1), hai, by omega, by omega, S2, HL, Lib.hid (.inr HT.out)⟩
            case measure => simp [intOf]; omega
          | false =>
            have HT := Lib.hid hlv
            obtain ⟨iN, hiN⟩ : ∃ zq, zq = m := ⟨_, rfl⟩
            obtain ⟨jN, hjN⟩ : ∃ zq, zq = ((i + j) / 2) := ⟨_, rfl⟩
            have ea : ((m : Int)).toNat = iN := by omega
            have pa : (0 : Int) ≤ (m : Int) := by omega
            have ba : (m : Int) < (d.size : Int) := by omega
            have ra : IntKind.i64.wrap ((m : Int)) = (m : Int) := by rw [IntKind.wrap_i64]; omega
            have eb : ((((i : Int) + (j : Int)) / 2)).toNat = jN := by omega
            have pb : (0 : Int) ≤ (((i : Int) + (j : Int)) / 2) := by omega
            have bb : (((i : Int) + (j : Int)) / 2) < (d.size : Int) := by omega
            have rb : IntKind.i64.wrap ((((i : Int) + (j : Int)) / 2)) = (((i : Int) + (j : Int)) / 2) := by rw [IntKind.wrap_i64]; omega
            obtain ⟨xv, hxv⟩ : ∃ zq, zq = d[m]! := ⟨_, rfl⟩
            obtain ⟨yv, hyv⟩ : ∃ zq, zq = d[((i + j) / 2)]! := ⟨_, rfl⟩
            have la := S1.out.cl R (by omega) (m) (by omega)
            have lb := S1.out.cl R (by omega) (((i + j) / 2)) (by omega)
            rw [← hxv, ← hiN] at la
            rw [← hyv, ← hjN] at lb
            have hc := S1.out.cmp HC.out (by omega) xv yv
            have hv : ltOf cf xv yv = false := by rw [hxv, hyv]; exact hlv
            have hd : decide (cf xv yv < 0) = false := hv
            clear hxv hyv hiN hjN hv
            go_wp2_with fail
            go_quiet_grown (first | (go_at_fn k; refine Calls.grown_of (hc _ _)))
            have S2 : Aside (SW enc w0 blk off d (grow (wr.drewN nq) osq)) := S1.out.grown nq osq
            clear la lb hc S1
            generalize grow (wr.drewN nq) osq = w2 at S2 ⊢
            clear nq osq
            clear ea eb
            clear hlv
            go_wp2_with fail
            go_roundw
            case rel => exact ⟨(i + j) / 2 + 1, j, by first | rfl | go_num | (congr 1), rfl, by omega, by omega, hjb, S2, Lib.hid (.inr HT.out), HR⟩
            case measure => simp [intOf]; omega
        · have k1 : decide ((i : Int) < (j : Int)) = false := decide_eq_false (by omega)
          obtain rfl : i = j := by omega
          go_wp2_with fail
          go_loopw [17] (fun vk wr => ∃ (t : Nat) (dk : Array α), vk = .int .i64 (t : Int) ∧ i ≤ t ∧ t ≤ m ∧ dk.size ≤ d.size ∧ d.size ≤ dk.size ∧ Aside (SW enc w0 blk off dk wr) ∧ Aside (∀ q, dk[q]! = rotAt d t m (m + 1) q) ∧ Aside (PermIn a b d dk)) (fun vk _ => (intOf vk).toNat)
          case atStart => exact ⟨m, d, rfl, by omega, Nat.le_refl _, Nat.le_refl _, Nat.le_refl _, S1, fun q => (rot_none_left d m (m + 1) (by omega) q).symm, permIn_refl _ _ _⟩
          case round =>
            clear S1
            obtain ⟨t, dk, rfl, hat, hti, hd1, hd2, S3, HQ, HP⟩ := hrel
            rcases Nat.lt_or_ge i t with hlt2 | hge2
            · have k2 : (i : Int) < (t : Int) := by omega
              go_wp2_with fail
              obtain ⟨iN, hiN⟩ : ∃ zq, zq = t := ⟨_, rfl⟩
              obtain ⟨jN, hjN⟩ : ∃ zq, zq = (t - 1) := ⟨_, rfl⟩
              have ea : ((t : Int)).toNat = iN := by omega
              have pa : (0 : Int) ≤ (t : Int) := by omega
              have ba : (t : Int) < (d.size : Int) := by omega
              have ra : IntKind.i64.wrap ((t : Int)) = (t : Int) := by rw [IntKind.wrap_i64]; omega
              have eb : (((t : Int) - 1)).toNat = jN := by omega
              have pb : (0 : Int) ≤ ((t : Int) - 1) := by omega
              have bb : ((t : Int) - 1) < (d.size : Int) := by omega
              have rb : IntKind.i64.wrap (((t : Int) - 1)) = ((t : Int) - 1) := by rw [IntKind.wrap_i64]; omega
              obtain ⟨xv, hxv⟩ : ∃ zq, zq = dk[t]! := ⟨_, rfl⟩
              obtain ⟨yv, hyv⟩ : ∃ zq, zq = dk[(t - 1)]! := ⟨_, rfl⟩
              have S2 : Aside (SW enc w0 blk off (swp dk (t) ((t - 1))) ((wr.setCell ⟨blk, off + iN, none⟩ (enc yv)).setCell ⟨blk, off + jN, none⟩ (enc xv)).drew) := by rw [hiN, hjN, hxv, hyv]; exact S3.out.swapped R (t) ((t - 1)) (by omega) (by omega)
              have ca := S3.out.c1 R (by omega) (t) (by omega)
              have cb9 := S3.out.c1 R (by omega) ((t - 1)) (by omega)
              have fa := S3.out.f1 R (by omega) (t) (by omega)
              have fb := S3.out.f1 R (by omega) ((t - 1)) (by omega)
              obtain ⟨uv, cc⟩ := S3.out.c2 R (by omega) (t) ((t - 1)) (by omega) (by omega) (enc yv)
              rw [← hjN, ← hiN] at cc
              rw [← hxv, ← hiN] at ca
              rw [← hyv, ← hjN] at cb9
              rw [← hiN] at fa
              rw [← hjN] at fb
              clear S3 hxv hyv hiN hjN
              go_wp2_with fail
              go_big_region_o
              clear ca cb9 cc fa fb
              generalize ((wr.setCell ⟨blk, off + iN, none⟩ (enc yv)).setCell ⟨blk, off + jN, none⟩ (enc xv)).drew = w2 at S2 ⊢
              clear ea eb
              go_wp2_with fail
              refine ⟨⟨t - 1, swp dk t (t - 1), by first | rfl | go_num | (congr 1; omega), by omega, by omega, by rw [size_swp]; exact hd1, by rw [size_swp]; exact hd2, S2, ?_, ?_⟩, by simp [intOf]; omega⟩
              · have h9 := rot_dn d dk m (t - 1) (by omega) (by omega) (by omega) (by rw [show t - 1 + 1 = t by omega]; exact HQ)
                rw [show t - 1 + 1 = t by omega] at h9
                exact h9
              · exact permIn_trans _ _ _ _ _ HP (swp_permIn dk a b t (t - 1) (by omega) (by omega) (by omega) (by omega) (by omega))
            · have k2 : decide ((i : Int) < (t : Int)) = false := decide_eq_false (by omega)
              have k3 : decide (i < t) = false := decide_eq_false (by omega)
              obtain rfl : t = i := by omega
              go_wp2_with fail
              go_end0
              exact ⟨rfl, dk, S3, by omega, HP, by rw [EB.out]; exact one_right hO d dk a t m hai hjb HQ HU.out HL.out HR.out⟩
    · exfalso; omega
end
end Go.Proofs.Ytpjpckhmjonehaa
