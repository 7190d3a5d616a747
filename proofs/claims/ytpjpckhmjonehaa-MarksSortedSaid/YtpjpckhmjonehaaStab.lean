/-
  The walk of slices.SortStableFunc at the numbers below n, n at most forty: they are put in order.
-/
import Derived.Test.YtpjpckhmjonehaaSymN
import Derived.Test.YtpjpckhmjonehaaSort1
import Derived.Shelf.SlSortCmp.Insertion1
namespace Go.Proofs.Ytpjpckhmjonehaa
open Go.RowKit Go.Shelf Go.Sort
set_option linter.unusedVariables false
set_option linter.unusedSimpArgs false

def stabL_ren : Go.Shelf.Ren := ⟨fun | 20 => 14 | n => n, fun | 0 => 0 | 3 => 3 | 4 => 4 | 22 => 22 | 24 => 3 | 25 => 23 | n => n, fun n => n⟩
theorem stabL : SlLaysF.n20 Try.prog stabL_ren := {
  mixed := by kernel_rfl
  f20 := ⟨Try.f14.name, by decide, Try.func14.trans (congrArg some (by kernel_rfl))⟩
  t0 := Try.underlying0
  a0 := Try.isAgg0
  z0 := Try.sizeOf0
  v0 := Try.zeroValue0
  t3 := Try.underlying3
  a3 := Try.isAgg3
  z3 := Try.sizeOf3
  v3 := Try.zeroValue3
  t4 := Try.underlying4
  a4 := Try.isAgg4
  z4 := Try.sizeOf4
  v4 := Try.zeroValue4
  t22 := Try.underlying22
  a22 := Try.isAgg22
  z22 := Try.sizeOf22
  v22 := Try.zeroValue22
  a24 := Try.isAgg3
  z24 := Try.sizeOf3
  t25 := Try.underlying23
  a25 := Try.isAgg23
  z25 := Try.sizeOf23
  v25 := Try.zeroValue23 }
section
variable {α : Type} [Inhabited α]
def StabPost (enc : α → Value) (cf : α → α → Int) (w0 : World) (blk off : Nat) (d : Array α) (e : Ending) (w' : World) : Prop :=
  e = .returned (.tuple #[]) ∧ ∃ d' : Array α, SW enc w0 blk off d' w' ∧ PermIn 0 d.size d d' ∧ SortedIn (ltOf cf) 0 d.size d'
set_option maxHeartbeats 8000000 in
set_option maxRecDepth 1000000 in
theorem stable_any (enc : α → Value) (cf : α → α → Int) (hO : SWO (ltOf cf)) (k : Nat) (cb : Array Value) (blk off cap : Nat) (d : Array α) (w : World) (R : Row1 enc w blk off d)
    (eg : ∀ args w, (callFunc k args).run Try.prog w = .ok (.enter k args) w) (hcmp : CmpLays1 Try.prog k cb enc cf blk off d.size w) (hn : d.size ≤ 39) :
    Calls Try.prog 12 #[.slice (some ⟨blk, off, none⟩) d.size cap, .int .i64 (d.size : Int), .func (.func k) #[] cb] w (StabPost enc cf w blk off d) := by
  have IS : ∀ (a b : Nat) (D : Array α) (W : World), d.size = D.size → SW enc w blk off D W → a ≤ b → b ≤ D.size → Calls Try.prog 14 #[.slice (some ⟨blk, off, none⟩) D.size cap, .int .i64 (a : Int), .int .i64 (b : Int), .func (.func k) #[] cb] W fun e w' => e = .returned (.tuple #[]) ∧ ∃ D', SW enc w blk off D' w' ∧ PermIn a b D D' ∧ SortedIn (ltOf cf) a b D' := fun a b D W h1 h2 h3 h4 =>
    (Any.insertionSortCmpFunc_s stabL enc cf k cb blk off cap a b d D w W eg hcmp R h1 h2 h3 h4 (by omega)).mono fun e w' ⟨he, hs⟩ => ⟨he, _, hs, (insertionSort_holds hO D a b h3 h4).1, (insertionSort_holds hO D a b h3 h4).2⟩
  have HIS := Lib.hid IS
  have HSY := Lib.hid (symMerge_any enc cf hO k cb blk off cap d w R eg hcmp)
  have S0 : Aside (SW enc w blk off d w) := SW.start R.hH
  clear IS eg hcmp
  rcases Nat.lt_or_ge d.size 20 with q | q
  · have c1 : decide ((20 : Int) ≤ (d.size : Int)) = false := decide_eq_false (by omega)
    have c2 : decide ((20 : Int) < (d.size : Int)) = false := decide_eq_false (by omega)
    have I1 := Lib.hid (HIS.out 0 d.size d w rfl S0 (by omega) (by omega))
    go_enter Try.func12, Try.ntmps12
    go_wp2_with fail
    refine wp_loop_rounds 1 ?_
    rw [rounds_succ]
    go_wp2_with fail
    refine I1.out.mono ?_
    rintro e w1 ⟨rfl, d1, S1, hp, hq⟩
    have HR := Lib.hid (And.intro S1 (And.intro hp hq))
    clear S1 hp hq I1 S0
    go_wp2_with fail
    refine wp_loop_rounds 1 ?_
    rw [rounds_succ]
    go_wp2_with fail
    go_end0
    exact ⟨rfl, d1, HR.out.1, HR.out.2.1, HR.out.2.2⟩
  · have c1 : (20 : Int) ≤ (d.size : Int) := by omega
    have c2 : decide ((40 : Int) ≤ (d.size : Int)) = false := decide_eq_false (by omega)
    have I1 := Lib.hid (HIS.out 0 20 d w rfl S0 (by omega) (by omega))
    go_enter Try.func12, Try.ntmps12
    go_wp2_with fail
    refine wp_loop_rounds 2 ?_
    rw [rounds_succ]
    go_wp2_with fail

    refine I1.out.mono ?_
    rintro e w1 ⟨rfl, d1, S1, hp, hq⟩
    have hz1 : d1.size ≤ d.size := by have := hp.1; omega
    have hz2 : d.size ≤ d1.size := by have := hp.1; omega
    have I2 := HIS.out 20 d.size d1 w1 (by omega) S1 q (by omega)
    rw [show d1.size = d.size by omega] at I2
    have I2' := Lib.hid I2
    have HR1 := Lib.hid (And.intro hp hq)
    clear S1 hp hq I1 S0 I2
    go_wp2_with fail
    rw [rounds_succ]
    go_wp2_with fail
    refine I2'.out.mono ?_
    rintro e w2 ⟨rfl, d2, S2, hp, hq⟩
    have hz3 : d2.size ≤ d.size := by have := hp.1; omega
    have hz4 : d.size ≤ d2.size := by have := hp.1; omega
    have hP2 : PermIn 0 d.size d d2 := permIn_trans _ _ _ _ _ (permIn_mono d d1 0 20 0 d.size (Nat.le_refl _) q (Nat.le_refl _) HR1.out.1) (permIn_mono d1 d2 20 d.size 0 d.size (by omega) (Nat.le_refl _) (by omega) hp)
    have hA : SortedIn (ltOf cf) 0 20 d2 := fun i j x1 x2 x3 => by rw [hp.2.1 i (.inl (by omega)), hp.2.1 j (.inl x3)]; exact HR1.out.2 i j x1 x2 x3
    rcases Nat.lt_or_ge 20 d.size with r | r
    · have c3 : (20 : Int) < (d.size : Int) := by omega
      have SY := HSY.out (d.size) 0 20 d.size d2 w2 (by omega) (by omega) S2 (by omega) r (by omega) (by omega) hA hq
      rw [show d2.size = d.size by omega] at SY
      have SY' := Lib.hid SY
      have HP2 := Lib.hid hP2
      clear SY S2 hp hq hP2 hA HR1 I2'
      go_wp2_with fail
      refine wp_loop_rounds 2 ?_
      rw [rounds_succ]
      go_wp2_with fail
      refine wp_loop_rounds 1 ?_
      rw [rounds_succ]
      go_wp2_with fail
      refine SY'.out.mono ?_
      rintro e w3 ⟨rfl, d3, S3, hs3, hp3, hq3⟩
      have HR3 := Lib.hid (And.intro S3 (And.intro (permIn_trans _ _ _ _ _ HP2.out hp3) hq3))
      clear S3 hs3 hp3 hq3 SY' HP2
      have c4 : decide ((40 : Int) < (d.size : Int)) = false := decide_eq_false (by omega)
      go_wp2_with fail
      rw [rounds_succ]
      go_wp2_with fail
      go_end0
      exact ⟨rfl, d3, HR3.out.1, HR3.out.2.1, HR3.out.2.2⟩
    · have c3 : decide ((20 : Int) < (d.size : Int)) = false := decide_eq_false (by omega)
      have HR2 := Lib.hid (And.intro S2 (And.intro hP2 hA))
      have hd20 : Hid (d.size = 20) := Lib.hid (by omega)
      clear S2 hp hq hP2 hA HR1 I2'
      go_wp2_with fail
      refine wp_loop_rounds 1 ?_
      rw [rounds_succ]
      go_wp2_with fail
      go_end0
      exact ⟨rfl, d2, HR2.out.1, HR2.out.2.1, by rw [hd20.out]; exact HR2.out.2.2⟩
end
def encS {n : Nat} (x : Fin n) : Value := .int .i64 (x.val : Int)
def SortedPost {n : Nat} (cf : Fin n → Fin n → Int) (g c base : Nat) (w : World) (e : Ending) (w' : World) : Prop :=
  e = .returned (.tuple #[]) ∧ ∃ l : List (Fin n), List.Perm l (List.finRange n) ∧ (l.Pairwise fun a b => ltOf cf b a = false) ∧ w'.ownsRow base 3 1 (.slice (some ⟨g, 0, none⟩) n c) n (l.map encS) ∧ Below base w w'
theorem ext_all9 {α : Type} (a : Array α) (m : Nat) (h : a.size = m) : a.extract 0 m = a := by subst h; exact Array.extract_size
theorem stableRow_any {n : Nat} [Inhabited (Fin n)] (cf : Fin n → Fin n → Int) (hO : SWO (ltOf cf)) (k : Nat) (cb : Array Value) (g c base : Nat) (w : World)
    (eg : ∀ args w, (callFunc k args).run Try.prog w = .ok (.enter k args) w)
    (h : w.ownsRow base 3 1 (.slice (some ⟨g, 0, none⟩) n c) n ((List.finRange n).map encS)) (hn : n ≤ 39)
    (hc : ∀ (x y : Fin n) (W : World), w.grownBy W (some g) → Calls Try.prog k (#[encS x, encS y] ++ cb) W fun e w' => e = .returned (.int .i64 (cf x y)) ∧ ∃ q os', w' = grow (W.drewN q) os') :
    Calls Try.prog 12 #[.slice (some ⟨g, 0, none⟩) n c, .int .i64 (n : Int), .func (.func k) #[] cb] w (SortedPost cf g c base w) := by
  have hl : (List.finRange n).length = n := List.length_finRange
  have hsz : (List.finRange n).toArray.size = n := by simp
  have ho : w.ownsRow base 3 1 (.slice (some ⟨g, 0, none⟩) (List.finRange n).length c) (List.finRange n).length ((List.finRange n).map encS) := by rw [hl]; exact h
  have hlt : g < w.heap.size := by
    obtain ⟨_, _, _, cur, hg, _⟩ := own_block1 h
    exact (Array.getElem?_eq_some_iff.1 hg).1
  have R : Row1 (encS (n := n)) w g 0 (List.finRange n).toArray := ⟨fun _ => rfl, holds_of_own _ ho, hlt⟩
  have hc' := stable_any (encS (n := n)) cf hO k cb g 0 c (List.finRange n).toArray w R eg (fun m os dk _ x y => hc x y _ sorted_grown) (by rw [hsz]; exact hn)
  rw [hsz] at hc'
  refine hc'.mono ?_
  rintro e w' ⟨rfl, d', ⟨m, os, rfl⟩, hp, hs⟩
  rw [hsz] at hp hs
  have hd : d'.size = n := by rw [hp.1, hsz]
  have hd2 : d'.toList.length = n := by simpa using hd
  obtain ⟨h4, h5⟩ := own_of_sorted1 (m := m) (os := os) _ ho d' (by rw [hd, hl])
  refine ⟨rfl, d'.toList, ?_, ?_, ?_, h5⟩
  · have e1 := ext_all9 d' n hd
    have e2 := ext_all9 (List.finRange n).toArray n hsz
    have h6 := hp.2.2
    rw [e1, e2] at h6
    simpa using h6
  · rw [List.pairwise_iff_getElem]
    intro i j hi hj hij
    have hj' : j < d'.size := by simpa using hj
    have hi' : i < d'.size := by simpa using hi
    have h3 := hs i j (Nat.zero_le _) hij (by rw [← hd]; exact hj')
    rw [getElem!_pos d' j hj', getElem!_pos d' i hi'] at h3
    exact h3
  · rw [hd2] at h4
    exact h4
set_option maxHeartbeats 2000000 in
set_option maxRecDepth 1000000 in
theorem sortStable_any {n : Nat} [Inhabited (Fin n)] (cf : Fin n → Fin n → Int) (hO : SWO (ltOf cf)) (k : Nat) (cb : Array Value) (g c base : Nat) (w : World)
    (eg : ∀ args w, (callFunc k args).run Try.prog w = .ok (.enter k args) w)
    (h : w.ownsRow base 3 1 (.slice (some ⟨g, 0, none⟩) n c) n ((List.finRange n).map encS)) (hn : n ≤ 39)
    (hc : ∀ (x y : Fin n) (W : World), w.grownBy W (some g) → Calls Try.prog k (#[encS x, encS y] ++ cb) W fun e w' => e = .returned (.int .i64 (cf x y)) ∧ ∃ q os', w' = grow (W.drewN q) os') :
    Calls Try.prog 8 #[.slice (some ⟨g, 0, none⟩) n c, .func (.func k) #[] cb] w (SortedPost cf g c base w) := by
  have HC := Lib.hid (stableRow_any cf hO k cb g c base w eg h hn hc)
  clear h hc eg
  go_enter Try.func8, Try.ntmps8
  go_wp2_with fail
  refine HC.out.mono ?_
  rintro e w1 ⟨rfl, l, h1, h2, h3, h4⟩
  have HH := Lib.hid (And.intro h1 (And.intro h2 (And.intro h3 h4)))
  clear h1 h2 h3 h4 HC
  go_wp2_with fail
  go_end0
  exact ⟨rfl, l, HH.out.1, HH.out.2.1, HH.out.2.2.1, HH.out.2.2.2⟩
end Go.Proofs.Ytpjpckhmjonehaa
