/-
  slices.SortFunc at hits: the shelf's contract laid here; by where they stand.
-/
import Derived.Test.YtacjckocjngfoaaSortK
import Derived.Test.YtacjckocjngfoaaManyC
import Derived.Test.YtacjckocjngfoaaGr
import Derived.Test.YtacjckocjngfoaaCmp
import Derived.Shelf.SlSortCmp.WholeK
namespace Go.Proofs.Ytacjckocjngfoaa
open Go.RowKit Go.Shelf Go.Sort
set_option linter.unusedVariables false
set_option linter.unusedSimpArgs false

def sortHitL_ren : Go.Shelf.Ren := ⟨fun | 6 => 16 | 14 => 28 | 15 => 29 | 20 => 40 | 21 => 41 | 22 => 42 | 23 => 43 | 24 => 44 | 25 => 45 | 26 => 46 | 27 => 47 | 28 => 48 | 29 => 49 | 46 => 53 | 47 => 54 | 48 => 55 | 49 => 56 | 50 => 57 | 57 => 75 | n => n, fun | 0 => 0 | 3 => 3 | 4 => 4 | 5 => 5 | 9 => 9 | 22 => 26 | 24 => 34 | 25 => 48 | 39 => 63 | 45 => 69 | 46 => 70 | 50 => 74 | 53 => 77 | 55 => 79 | 66 => 83 | 70 => 87 | 76 => 100 | 77 => 101 | n => n, fun n => n⟩
theorem sortHitL : SlLaysF0.n6 Try.prog sortHitL_ren := {
  mixed := by kernel_rfl
  f6 := ⟨Try.f16.name, by decide, Try.func16.trans (congrArg some (by kernel_rfl))⟩
  f14 := ⟨Try.f28.name, by decide, Try.func28.trans (congrArg some (by kernel_rfl))⟩
  f15 := Try.func29.trans (congrArg some (by kernel_rfl))
  f20 := ⟨Try.f40.name, by decide, Try.func40.trans (congrArg some (by kernel_rfl))⟩
  f21 := ⟨Try.f41.name, by decide, Try.func41.trans (congrArg some (by kernel_rfl))⟩
  f22 := ⟨Try.f42.name, by decide, Try.func42.trans (congrArg some (by kernel_rfl))⟩
  f23 := ⟨Try.f43.name, by decide, Try.func43.trans (congrArg some (by kernel_rfl))⟩
  f24 := ⟨Try.f44.name, by decide, Try.func44.trans (congrArg some (by kernel_rfl))⟩
  f25 := ⟨Try.f45.name, by decide, Try.func45.trans (congrArg some (by kernel_rfl))⟩
  f26 := ⟨Try.f46.name, by decide, Try.func46.trans (congrArg some (by kernel_rfl))⟩
  f27 := ⟨Try.f47.name, by decide, Try.func47.trans (congrArg some (by kernel_rfl))⟩
  f28 := Try.func48.trans (congrArg some (by kernel_rfl))
  f29 := Try.func49.trans (congrArg some (by kernel_rfl))
  f46 := ⟨Try.f53.name, by decide, Try.func53.trans (congrArg some (by kernel_rfl))⟩
  f47 := Try.func54.trans (congrArg some (by kernel_rfl))
  f48 := Try.func55.trans (congrArg some (by kernel_rfl))
  f49 := ⟨Try.f56.name, by decide, Try.func56.trans (congrArg some (by kernel_rfl))⟩
  f50 := ⟨Try.f57.name, by decide, Try.func57.trans (congrArg some (by kernel_rfl))⟩
  f57 := ⟨Try.f75.name, by decide, Try.func75.trans (congrArg some (by kernel_rfl))⟩
  t0 := Try.underlying0
  a0 := Try.isAgg0
  z0 := Try.sizeOf0
  v0 := Try.zeroValue0
  t3 := Try.underlying3
  a3 := Try.isAgg3
  z3 := Try.sizeOf3
  v3 := Try.zeroValue3
  t4 := Try.underlying4
  a4 := Try.isAgg4
  z4 := Try.sizeOf4
  v4 := Try.zeroValue4
  t5 := Try.underlying5
  a5 := Try.isAgg5
  z5 := Try.sizeOf5
  v5 := Try.zeroValue5
  t9 := Try.underlying9
  a9 := Try.isAgg9
  z9 := Try.sizeOf9
  v9 := Try.zeroValue9
  t22 := Try.underlying26
  a22 := Try.isAgg26
  z22 := Try.sizeOf26
  v22 := Try.zeroValue26
  t25 := Try.underlying48
  a25 := Try.isAgg48
  z25 := Try.sizeOf48
  v25 := Try.zeroValue48
  t39 := Try.underlying63
  a39 := Try.isAgg63
  z39 := Try.sizeOf63
  v39 := Try.zeroValue63
  t45 := Try.underlying69
  a45 := Try.isAgg69
  z45 := Try.sizeOf69
  v45 := Try.zeroValue69
  t46 := Try.underlying70
  a46 := Try.isAgg70
  z46 := Try.sizeOf70
  v46 := Try.zeroValue70
  t50 := Try.underlying74
  a50 := Try.isAgg74
  z50 := Try.sizeOf74
  v50 := Try.zeroValue74
  t53 := Try.underlying77
  a53 := Try.isAgg77
  z53 := Try.sizeOf77
  v53 := Try.zeroValue77
  t55 := Try.underlying79
  a55 := Try.isAgg79
  z55 := Try.sizeOf79
  v55 := Try.zeroValue79
  t66 := Try.underlying83
  a66 := Try.isAgg83
  z66 := Try.sizeOf83
  v66 := Try.zeroValue83
  t70 := Try.underlying87
  a70 := Try.isAgg87
  z70 := Try.sizeOf87
  v70 := Try.zeroValue87
  t76 := Try.underlying100
  a76 := Try.isAgg100
  z76 := Try.sizeOf100
  v76 := Try.zeroValue100
  t77 := Try.underlying101
  a77 := Try.isAgg101
  z77 := Try.sizeOf101
  v77 := Try.zeroValue101 }

def htf (x y : Ht) : Int := cmpI x.a y.a
set_option maxRecDepth 100000 in
set_option maxHeartbeats 2000000 in
theorem htCmp (x y : Ht) (w : World) : Calls Try.prog 17 #[.agg #[.int .i64 (x.a : Int), .int .i64 (x.f : Int)], .agg #[.int .i64 (y.a : Int), .int .i64 (y.f : Int)]] w fun e w' => e = .returned (.int .i64 (htf x y)) ∧ Gr.Grew w w' := by
  have C := Lib.hid (fun W => Gr.compare_nat x.a y.a W)
  have BX := Blk.new w 34 #[.int .i64 (x.a : Int), .int .i64 (x.f : Int)]
  have BX2 := BX.below ((Below.refl _ _).alloc (Nat.le_refl _) (.cells #[.int .i64 (y.a : Int), .int .i64 (y.f : Int)] 34)) (by simp)
  have BY := Blk.new (w.alloc (.cells #[.int .i64 (x.a : Int), .int .i64 (x.f : Int)] 34)) 34 #[.int .i64 (y.a : Int), .int .i64 (y.f : Int)]
  have HG := Lib.hid ((Gr.Grew.alloc w (.cells #[.int .i64 (x.a : Int), .int .i64 (x.f : Int)] 34)).trans (Gr.Grew.alloc _ (.cells #[.int .i64 (y.a : Int), .int .i64 (y.f : Int)] 34)))
  unfold htf
  generalize cmpI x.a y.a = r at *
  generalize (x.a : Int) = xa at *
  generalize (y.a : Int) = ya at *
  generalize (x.f : Int) = xf at *
  generalize (y.f : Int) = yf at *
  simp only [World.size_alloc] at BY
  go_enter Try.func17, Try.ntmps17
  go_wp2_with fail
  generalize ((w.alloc (.cells #[.int .i64 xa, .int .i64 xf] 34)).alloc (.cells #[.int .i64 ya, .int .i64 yf] 34)) = W at *
  refine (C.out _).mono ?_
  rintro e w1 ⟨rfl, rfl⟩
  clear C
  go_wp2_with fail
  go_ret
  exact ⟨rfl, HG.out⟩
theorem htf_lt (x y : Ht) : ltOf htf x y = true ↔ x.a < y.a := by unfold ltOf htf; rw [decide_eq_true_eq]; exact cmpI_neg _ _
theorem hit_swo : SWO (ltOf htf) := by
  have e2 : ∀ x y, ltOf htf x y = false ↔ ¬ x.a < y.a := fun x y => by rw [← htf_lt]; simp
  refine ⟨fun x => (e2 x x).2 (Nat.lt_irrefl _), fun x y z h1 h2 => ?_, fun x y z h1 h2 => ?_⟩
  · rw [htf_lt] at *; omega
  · rw [e2] at *; omega
theorem asc_a : ∀ (l : List Ht), (l.Pairwise fun x y => x.a < y.a) → ∀ x ∈ l, ∀ y ∈ l, x.a = y.a → x = y
  | [], _, x, hx, _, _, _ => by cases hx
  | z :: l, h, x, hx, y, hy, e => by
    rw [List.pairwise_cons] at h
    rcases List.mem_cons.1 hx with h1 | h1
    · rcases List.mem_cons.1 hy with h2 | h2
      · rw [h1, h2]
      · have := h.1 y h2; rw [h1] at e; omega
    · rcases List.mem_cons.1 hy with h2 | h2
      · have := h.1 x h1; rw [h2] at e; omega
      · exact asc_a l h.2 x h1 y h2 e
theorem hit_same (l : List Ht) (ha : l.Pairwise fun x y => x.a < y.a) (d' : Array Ht) (h1 : PermIn 0 l.toArray.size l.toArray d') (h2 : SortedIn (ltOf htf) 0 l.toArray.size d') : d'.toList = l := by
  obtain ⟨hs, _, hp⟩ := h1
  have e1 : d'.extract 0 l.toArray.size = d' := by rw [← hs]; exact Array.extract_size
  have e2 : l.toArray.extract 0 l.toArray.size = l.toArray := Array.extract_size
  rw [e1, e2] at hp
  have hp2 : List.Perm d'.toList l := by simpa using hp
  refine List.Perm.eq_of_pairwise (le := fun x y : Ht => x.a ≤ y.a) (fun a b h3 h4 h5 h6 => asc_a l ha a (hp2.mem_iff.1 h3) b h4 (Nat.le_antisymm h5 h6)) ?_ (ha.imp fun {a b} h => Nat.le_of_lt h) hp2
  rw [List.pairwise_iff_getElem]
  intro i j hi hj hij
  have hj' : j < d'.size := by simpa using hj
  have hi' : i < d'.size := by simpa using hi
  have h3 := h2 i j (Nat.zero_le _) hij (by rw [← hs]; exact hj')
  rw [getElem!_pos d' j hj', getElem!_pos d' i hi'] at h3
  have h4 : ¬ d'[j].a < d'[i].a := fun h => by rw [(htf_lt _ _).2 h] at h3; cases h3
  show d'[i].a ≤ d'[j].a
  omega
theorem hitSort_some (l : List Ht) (g c base : Nat) (w : World) (h : w.ownsRow base 34 2 (.slice (some ⟨g, 0, none⟩) l.length c) l.length (cellsOf htc l)) (hl : l.length ≤ 1000) (ha : l.Pairwise fun x y => x.a < y.a) :
    Calls Try.prog 16 #[.slice (some ⟨g, 0, none⟩) l.length c, .func (.func 17) #[] #[]] w fun e w' =>
      e = .returned (.tuple #[]) ∧ w'.ownsRow base 34 2 (.slice (some ⟨g, 0, none⟩) l.length c) l.length (cellsOf htc l) ∧ Below base w w' := by
  have eg : ∀ args w, (callFunc 17 args).run Try.prog w = .ok (.enter 17 args) w := enters_of Try.func17 (by kernel_rfl) rfl
  have hlt : g < w.heap.size := by
    obtain ⟨_, _, _, cur, hg, _⟩ := own_block h
    exact (Array.getElem?_eq_some_iff.1 hg).1
  have hsz : l.toArray.size = l.length := by simp
  have hc := AnyQ.slices_SortFunc sortHitL 2 Try.isAgg34 Try.sizeOf34 htc htc_len htc_one htf hit_swo 17 #[] g 0 c l.toArray w eg
    (fun m os dk _ x y => (htCmp x y _).mono fun e w' ⟨he, hg⟩ => ⟨he, hg⟩) (holdsK_of_own htc_len l h) hlt (by rw [hsz]; omega)
  rw [hsz] at hc
  refine hc.mono ?_
  rintro e w' ⟨rfl, d', n, os, hp, hs, rfl⟩
  have h3 := hit_same l ha d' (by rw [hsz]; exact hp) (by rw [hsz]; exact hs)
  have hds : d'.size = l.length := by rw [hp.1, hsz]
  obtain ⟨h4, h5⟩ := own_of_sorted (m := n) (os := os) htc_len l h d' hds
  rw [h3] at h4
  exact ⟨rfl, h4, h5⟩
def HitSortPost (base : Nat) (v : Value) (l : List Ht) (w : World) (e : Ending) (w' : World) : Prop := e = .returned (.tuple #[]) ∧ w'.ownsRow base 34 2 v l.length (cellsOf htc l) ∧ Below base w w'
/-- Of hits that stand in order already. -/
theorem hitSort_own (base : Nat) (v : Value) (l : List Ht) (w : World) (h : w.ownsRow base 34 2 v l.length (cellsOf htc l)) (hl : l.length ≤ 1000) (ha : l.Pairwise fun x y => x.a < y.a) :
    Calls Try.prog 16 #[v, .func (.func 17) #[] #[]] w (HitSortPost base v l w) := by
  rcases h.2 with ⟨rfl, hn⟩ | ⟨g, cap, cur, rfl, _⟩
  · exact (AnyF.slices_SortFunc_none { sortHitL with } none 0 _ w).mono fun e w' h9 => ⟨h9.1, by rw [h9.2]; exact h, by rw [h9.2]; exact Below.refl _ _⟩
  · exact hitSort_some l g cap base w h hl ha
end Go.Proofs.Ytacjckocjngfoaa
