/-
  The walks of the sort library's swapRange and rotate, at elements of one cell, from a world of the sort's to a world of the sort's.
-/
import Derived.Test.YtpjpckhmjonehaaSymA
import Derived.Shelf.SlSortCmp.Kit1
import Derived.Sort.WalkB2
import Derived.Sort.WalkB12
import Derived.Deep.LoopGhost
namespace Go.Proofs.Ytpjpckhmjonehaa
open Go.RowKit Go.Shelf Go.Sort
set_option linter.unusedVariables false
set_option linter.unusedSimpArgs false

section
variable {α : Type} [Inhabited α]
def SwapPost (enc : α → Value) (w0 : World) (blk off : Nat) (d : Array α) (x y n : Nat) (e : Ending) (w' : World) : Prop :=
  e = .returned (.tuple #[]) ∧ ∃ d' : Array α, SW enc w0 blk off d' w' ∧ (∀ q, d'[q]! = srAt d x y n q) ∧ d'.size = d.size ∧ ∀ lo hi, lo ≤ x → y + n ≤ hi → hi ≤ d.size → PermIn lo hi d d'
set_option maxHeartbeats 4000000 in
set_option maxRecDepth 1000000 in
theorem swapRange_any (enc : α → Value) (k : Nat) (cb : Array Value) (blk off cap x y n : Nat) (d0 d : Array α) (w0 w : World) (R : Row1 enc w0 blk off d0) (hs : d0.size = d.size) (S : SW enc w0 blk off d w) (hxy : x + n ≤ y) (hy : y + n ≤ d.size) (hsz : d.size ≤ 1000000) :
    Calls Try.prog 17 #[.slice (some ⟨blk, off, none⟩) d.size cap, .int .i64 (x : Int), .int .i64 (y : Int), .int .i64 (n : Int), .func (.func k) #[] cb] w (SwapPost enc w0 blk off d x y n) := by
  have hcl0 := R.hO.cells
  simp only [Value.cells] at hcl0
  have hst := R.hO.store Try.prog
  have mixed : Try.prog.follows Departure.mixedOrders = true := by kernel_rfl
  have S0 : Aside (SW enc w0 blk off d w) := S
  clear S
  go_enter Try.func17, Try.ntmps17
  go_wp2_with fail
  go_loopw [10] (fun vi wr => ∃ (i : Nat) (dk : Array α), vi = .int .i64 (i : Int) ∧ i ≤ n ∧ dk.size = d.size ∧ Aside (SW enc w0 blk off dk wr) ∧ Aside (∀ q, dk[q]! = srAt d x y i q) ∧ Aside (∀ lo hi, lo ≤ x → y + n ≤ hi → hi ≤ d.size → PermIn lo hi d dk)) (fun vi _ => n - (intOf vi).toNat)
  case atStart => exact ⟨0, d, rfl, Nat.zero_le _, rfl, S0, fun q => (sr_zero d x y q).symm, fun _ _ _ _ _ => permIn_refl _ _ _⟩
  case round =>
    clear S0
    obtain ⟨i, dk, rfl, hin, hds, S1, HQ, HP⟩ := hrel
    rcases Nat.lt_or_ge i n with hlt | hge
    · have k1 : (i : Int) < (n : Int) := by omega
      go_wp2_with fail
      obtain ⟨iN, hiN⟩ : ∃ zq, zq = (x + i) := ⟨_, rfl⟩
      obtain ⟨jN, hjN⟩ : ∃ zq, zq = (y + i) := ⟨_, rfl⟩
      have ea : (((x : Int) + (i : Int))).toNat = iN := by omega
      have pa : (0 : Int) ≤ ((x : Int) + (i : Int)) := by omega
      have ba : ((x : Int) + (i : Int)) < (d.size : Int) := by omega
      have ra : IntKind.i64.wrap (((x : Int) + (i : Int))) = ((x : Int) + (i : Int)) := by rw [IntKind.wrap_i64]; omega
      have eb : (((y : Int) + (i : Int))).toNat = jN := by omega
      have pb : (0 : Int) ≤ ((y : Int) + (i : Int)) := by omega
      have bb : ((y : Int) + (i : Int)) < (d.size : Int) := by omega
      have rb : IntKind.i64.wrap (((y : Int) + (i : Int))) = ((y : Int) + (i : Int)) := by rw [IntKind.wrap_i64]; omega
      obtain ⟨xv, hxv⟩ : ∃ zq, zq = dk[(x + i)]! := ⟨_, rfl⟩
      obtain ⟨yv, hyv⟩ : ∃ zq, zq = dk[(y + i)]! := ⟨_, rfl⟩
      have S2 : Aside (SW enc w0 blk off (swp dk ((x + i)) ((y + i))) ((wr.setCell ⟨blk, off + iN, none⟩ (enc yv)).setCell ⟨blk, off + jN, none⟩ (enc xv)).drew) := by rw [hiN, hjN, hxv, hyv]; exact S1.out.swapped R ((x + i)) ((y + i)) (by omega) (by omega)
      have ca := S1.out.c1 R (by omega) ((x + i)) (by omega)
      have cb9 := S1.out.c1 R (by omega) ((y + i)) (by omega)
      have fa := S1.out.f1 R (by omega) ((x + i)) (by omega)
      have fb := S1.out.f1 R (by omega) ((y + i)) (by omega)
      obtain ⟨uv, cc⟩ := S1.out.c2 R (by omega) ((x + i)) ((y + i)) (by omega) (by omega) (enc yv)
      rw [← hjN, ← hiN] at cc
      rw [← hxv, ← hiN] at ca
      rw [← hyv, ← hjN] at cb9
      rw [← hiN] at fa
      rw [← hjN] at fb
      clear S1 hxv hyv hiN hjN
      go_wp2_with fail
      go_big_region_o
      clear ca cb9 cc fa fb
      generalize ((wr.setCell ⟨blk, off + iN, none⟩ (enc yv)).setCell ⟨blk, off + jN, none⟩ (enc xv)).drew = w2 at S2 ⊢
      clear ea eb
      go_wp2_with fail
      refine ⟨⟨i + 1, swp dk (x + i) (y + i), by go_num, hlt, by rw [size_swp]; exact hds, S2, ?_, ?_⟩, by simp [intOf]; omega⟩
      · exact sr_succ d dk x y n i hxy hlt hy hds HQ
      · intro lo hi h1 h2 h3
        exact permIn_trans _ _ _ _ _ (HP lo hi h1 h2 h3) (swp_permIn dk lo hi (x + i) (y + i) (by omega) (by omega) (by omega) (by omega) (by omega))
    · have k1 : decide ((i : Int) < (n : Int)) = false := decide_eq_false (by omega)
      obtain rfl : i = n := by omega
      go_wp2_with fail
      go_end0
      exact ⟨rfl, dk, S1, HQ, hds, HP⟩
def RotPost (enc : α → Value) (w0 : World) (blk off : Nat) (d : Array α) (a m b : Nat) (e : Ending) (w' : World) : Prop :=
  e = .returned (.tuple #[]) ∧ ∃ d' : Array α, SW enc w0 blk off d' w' ∧ (∀ q, d'[q]! = rotAt d a m b q) ∧ d'.size = d.size ∧ PermIn a b d d'
set_option maxHeartbeats 4000000 in
set_option maxRecDepth 1000000 in
theorem rotate_any (enc : α → Value) (k : Nat) (cb : Array Value) (blk off cap a m b : Nat) (d0 d : Array α) (w0 w : World) (R : Row1 enc w0 blk off d0) (hs : d0.size = d.size) (S : SW enc w0 blk off d w) (ham : a < m) (hmb : m < b) (hb : b ≤ d.size) (hsz : d.size ≤ 1000000) :
    Calls Try.prog 16 #[.slice (some ⟨blk, off, none⟩) d.size cap, .int .i64 (a : Int), .int .i64 (m : Int), .int .i64 (b : Int), .func (.func k) #[] cb] w (RotPost enc w0 blk off d a m b) := by
  obtain ⟨i0, hi0, hi1⟩ : ∃ i0, m ≤ a + i0 ∧ a + i0 ≤ m := ⟨m - a, by omega, by omega⟩
  obtain ⟨j0, hj0, hj1⟩ : ∃ j0, b ≤ m + j0 ∧ m + j0 ≤ b := ⟨b - m, by omega, by omega⟩
  have S0 : Aside (SW enc w0 blk off d w) := S
  have hw1 : IntKind.i64.wrap ((m : Int) - (a : Int)) = (i0 : Int) := by rw [IntKind.wrap_i64]; omega
  have hw2 : IntKind.i64.wrap ((b : Int) - (m : Int)) = (j0 : Int) := by rw [IntKind.wrap_i64]; omega
  clear S
  go_enter Try.func16, Try.ntmps16
  go_wp2_with fail
  clear hw1 hw2
  go_loopw [10, 11] (fun vi vj wr => ∃ (i j p : Nat) (dk : Array α), vi = .int .i64 (i : Int) ∧ vj = .int .i64 (j : Int) ∧ 0 < i ∧ 0 < j ∧ m ≤ p + i ∧ p + i ≤ m ∧ a ≤ p ∧ m + j ≤ b ∧ dk.size = d.size ∧ Aside (SW enc w0 blk off dk wr) ∧ Aside (∀ q, rotAt dk (m - i) m (m + j) q = rotAt d a m b q) ∧ Aside (PermIn a b d dk)) (fun vi vj _ => (intOf vi).toNat + (intOf vj).toNat)
  case atStart => exact ⟨i0, j0, a, d, rfl, rfl, by omega, by omega, by omega, by omega, by omega, by omega, rfl, S0, (by rw [show m - i0 = a by omega, show m + j0 = b by omega]; exact fun q => rfl), permIn_refl _ _ _⟩
  case round =>
    clear S0
    obtain ⟨i, j, p, dk, rfl, rfl, hip, hjp, hp, hp', hap, hjb, hds, S1, HQ, HP⟩ := hrel
    have hw1 : IntKind.i64.wrap ((m : Int) - (i : Int)) = (p : Int) := by rw [IntKind.wrap_i64]; omega
    have EM : Hid (m - i = p) := Lib.hid (by omega)
    have HDS := Lib.hid hds
    have hds1 : dk.size ≤ d.size := by omega
    have hds2 : d.size ≤ dk.size := by omega
    clear hds
    rcases Nat.lt_trichotomy i j with hlt | hlt | hlt
    · obtain ⟨j', hj1', hj2'⟩ : ∃ j', j ≤ j' + i ∧ j' + i ≤ j := ⟨j - i, by omega, by omega⟩
      have t1 : ((i : Int) != (j : Int)) = true := by rw [bne_iff_ne]; omega
      have t2 : decide ((j : Int) < (i : Int)) = false := decide_eq_false (by omega)
      have t3 : decide (j < i) = false := decide_eq_false (by omega)
      have hw2 : IntKind.i64.wrap ((m : Int) + (j : Int)) = (m : Int) + (j : Int) := by rw [IntKind.wrap_i64]; omega
      have hw3 : IntKind.i64.wrap ((m : Int) + (j : Int) - (i : Int)) = ((m + j' : Nat) : Int) := by rw [IntKind.wrap_i64]; omega
      have hw4 : IntKind.i64.wrap ((j : Int) - (i : Int)) = (j' : Int) := by rw [IntKind.wrap_i64]; omega
      have SP := swapRange_any enc k cb blk off cap p (m + j') i d0 dk w0 wr R (by omega) S1 (by omega) (by omega) (by omega)
      rw [HDS.out] at SP
      have HSP := Lib.hid SP
      clear SP S1
      go_wp2_with fail
      refine HSP.out.mono ?_
      rintro e w1 ⟨rfl, d', S2, hq, hd', hpm⟩
      have hd1' : d'.size ≤ d.size := by omega
      have hd2' : d.size ≤ d'.size := by omega
      clear hd'
      have S3 : Aside (SW enc w0 blk off d' w1) := S2
      have HQ2 : Aside (∀ q, rotAt d' (m - i) m (m + j') q = rotAt d a m b q) := fun q => by
        have := rot_right dk d' i j m (by omega) hlt (by rw [EM.out, show m + j - i = m + j' by omega]; exact hq) q
        rw [show j - i = j' by omega] at this
        rw [this]; exact HQ q
      have HP2 : Aside (PermIn a b d d') := permIn_trans _ _ _ _ _ HP (hpm a b hap (by omega) (by omega))
      clear S2 hq hpm HQ HP HSP
      go_wp2_with fail
      exact ⟨⟨i, j', p, d', rfl, rfl, hip, by omega, hp, hp', hap, by omega, by omega, S3, HQ2, HP2⟩, by simp [intOf]; omega⟩
    · subst hlt
      have t1 : ((i : Int) != (i : Int)) = false := by simp
      have SP := swapRange_any enc k cb blk off cap p m i d0 dk w0 wr R (by omega) S1 (by omega) (by omega) (by omega)
      rw [HDS.out] at SP
      have HSP := Lib.hid SP
      clear SP S1
      go_wp2_with fail
      refine HSP.out.mono ?_
      rintro e w1 ⟨rfl, d', S2, hq, hd', hpm⟩
      have hd1' : d'.size ≤ d.size := by omega
      have hd2' : d.size ≤ d'.size := by omega
      clear hd'
      have S3 : Aside (SW enc w0 blk off d' w1) := S2
      have HQ2 : Aside (∀ q, d'[q]! = rotAt d a m b q) := fun q => by
        rw [hq q, ← EM.out, rot_even dk i m (by omega) q]; exact HQ q
      have HP2 : Aside (PermIn a b d d') := permIn_trans _ _ _ _ _ HP (hpm a b hap (by omega) (by omega))
      clear S2 hq hpm HQ HP HSP
      go_wp2_with fail
      go_end0
      exact ⟨rfl, d', S3, HQ2, by omega, HP2⟩
    · obtain ⟨i', hi1', hi2'⟩ : ∃ i', i ≤ i' + j ∧ i' + j ≤ i := ⟨i - j, by omega, by omega⟩
      have t1 : ((i : Int) != (j : Int)) = true := by rw [bne_iff_ne]; omega
      have t2 : (j : Int) < (i : Int) := by omega
      have hw4 : IntKind.i64.wrap ((i : Int) - (j : Int)) = (i' : Int) := by rw [IntKind.wrap_i64]; omega
      have SP := swapRange_any enc k cb blk off cap p m j d0 dk w0 wr R (by omega) S1 (by omega) (by omega) (by omega)
      rw [HDS.out] at SP
      have HSP := Lib.hid SP
      clear SP S1
      go_wp2_with fail
      refine HSP.out.mono ?_
      rintro e w1 ⟨rfl, d', S2, hq, hd', hpm⟩
      have hd1' : d'.size ≤ d.size := by omega
      have hd2' : d.size ≤ d'.size := by omega
      clear hd'
      have S3 : Aside (SW enc w0 blk off d' w1) := S2
      have HQ2 : Aside (∀ q, rotAt d' (m - i') m (m + j) q = rotAt d a m b q) := fun q => by
        have := rot_left dk d' i j m (by omega) hlt (by rw [EM.out]; exact hq) q
        rw [show i - j = i' by omega] at this
        rw [this]; exact HQ q
      have HP2 : Aside (PermIn a b d d') := permIn_trans _ _ _ _ _ HP (hpm a b hap (by omega) (by omega))
      clear S2 hq hpm HQ HP HSP
      go_wp2_with fail
      exact ⟨⟨i', j, p + j, d', rfl, rfl, by omega, hjp, by omega, by omega, by omega, hjb, by omega, S3, HQ2, HP2⟩, by simp [intOf]; omega⟩
end
end Go.Proofs.Ytpjpckhmjonehaa
