/-
  How edits are told to a walk, and the walks of EditOf, edit.Made, edit.Undo, edit.Check at an edit that may be made. Nothing that was there is changed.
-/
import Derived.Test.YtpgjjnbepkofdaaText
import Derived.Test.YtpgjjnbepkofdaaChg
import Derived.BigQuiet
import Derived.Deep.QuietTactic
import Derived.Deep.RegionHeld3
import Derived.StillTailTactics
namespace Go.Proofs.Ytpgjjnbepkofdaa
open Go.RowKit
set_option linter.unusedVariables false

/-- An edit: cut c bytes from p on, put others there. -/
structure Ed where
  p : Nat
  c : Nat
  put : ByteArray
def edv (e : Ed) : Value := .agg #[.int .i64 e.p, .int .i64 e.c, .string e.put]
def EdPost (n : Nat) (w : World) (e : Ending) (w' : World) : Prop := ∃ d : Ed, e = .returned (.agg #[.int .i64 d.p, .int .i64 d.c, .string d.put]) ∧ d.p + d.c ≤ n ∧ d.c ≤ 12 ∧ d.put.size ≤ 8 ∧ Below w.heap.size w w'

theorem text_len (xs : List Int) (n : Nat) (s : ByteArray) (h : s.data.toList = (xs.take n).map letter) : s.size ≤ n := by
  have h2 : s.data.toList.length = s.size := by simp
  rw [← h2, h]; simp; omega

theorem min12 (n p : Nat) (h : p ≤ n) (hn : n ≤ 100000) : ∃ m : Nat, IntKind.i64.wrap ((if 12 < IntKind.i64.wrap ((n : Int) - (p : Int)) then 12 else IntKind.i64.wrap ((n : Int) - (p : Int))) + 1) = (m : Int) + 1 ∧ m ≤ n - p ∧ m ≤ 12 := by
  rw [IntWalk.i64_in ((n : Int) - (p : Int)) (by omega)]
  by_cases h12 : 12 < (n : Int) - (p : Int)
  · rw [if_pos h12, IntWalk.i64_in _ (by omega)]; exact ⟨12, by omega, by omega, by omega⟩
  · rw [if_neg h12, IntWalk.i64_in _ (by omega)]; exact ⟨n - p, by omega, by omega, by omega⟩

set_option maxRecDepth 100000 in
set_option maxHeartbeats 1000000 in
theorem editOf_any (x : Chg) (v0 v1 v2 : Value) (n : Nat) (w : World) (h : Chg1 w v0 v1 v2 x) (hn : n ≤ 100000) :
    Calls Try.prog 38 #[.agg #[v0, v1, v2], .int .i64 n] w (EdPost n w) := by
  obtain ⟨rfl, rfl, hr, hp, hc⟩ := h
  obtain ⟨p, hpe⟩ : ∃ p : Nat, x.p % ((n : Int) + 1) = (p : Int) := ⟨(x.p % ((n : Int) + 1)).toNat, by have := Int.emod_nonneg x.p (show (n : Int) + 1 ≠ 0 by omega); omega⟩
  have hpn : p ≤ n := by have := Int.emod_lt_of_pos x.p (show 0 < (n : Int) + 1 by omega); omega
  have HP := Lib.hid hpe
  clear hpe
  have hr1 : Row .i64 ((w.alloc (Obj.cells #[.int .i64 x.p, .int .i64 x.c, v2] 81)).alloc (Obj.cells #[.int .i64 0, .int .i64 0, .string ⟨#[]⟩] 49)) v2 x.put :=
    hr.later (((Below.refl _ _).alloc (Nat.le_refl _) _).alloc (by simp) _)
  obtain ⟨A2, c2, rfl, _⟩ := hr
  generalize x.p = xp at *
  generalize x.c = xc at *
  go_enter Try.func38, Try.ntmps38
  go_wp2_with fail
  refine (picked_any xp _ _ hp (by omega) (by omega)).mono ?_
  rintro e w' ⟨rfl, rfl⟩
  rw [HP.out]
  have hmod : ∀ m : Int, 0 < m → 0 ≤ xc % m ∧ xc % m < m := fun m hm => ⟨Int.emod_nonneg _ (by omega), Int.emod_lt_of_pos _ hm⟩
  have HM := Lib.hid hmod
  clear hmod
  obtain ⟨m, hm, hm1, hm2⟩ := min12 n p hpn hn
  have H12 := Lib.hid hm
  clear hm
  obtain ⟨q, hqe⟩ : ∃ q : Nat, xc % ((m : Int) + 1) = (q : Int) := ⟨(xc % ((m : Int) + 1)).toNat, by have := (HM.out ((m : Int) + 1) (by omega)).1; omega⟩
  have hqm : q ≤ m := by have := (HM.out ((m : Int) + 1) (by omega)).2; omega
  have HPK : Hid (∀ W : World, Calls Try.prog 12 #[.int .i64 xc, .int .i64 ((m : Int) + 1)] W fun e w' => e = .returned (.int .i64 (q : Int)) ∧ W = w') := by
    intro W; have := picked_any xc ((m : Int) + 1) W hc (by omega) (by omega); rw [hqe] at this; exact this
  clear hqe
  go_wp2_with fail
  generalize hW0 : ((w.alloc (Obj.cells #[.int .i64 xp, .int .i64 xc, .slice A2 x.put.length c2] 81)).alloc (Obj.cells #[.int .i64 0, .int .i64 0, .string ⟨#[]⟩] 49)) = W0 at *
  refine wp_region_still_tail 13 (by kernel_rfl) (by kernel_rfl) ?_
  change wpStill _ _ W0.drew _ _ _
  simp only [List.take_succ_cons, List.take_zero, List.drop_succ_cons, List.drop_zero]
  generalize hW : W0.drew = W
  obtain ⟨C1, C2, F0, F1, F2, Z0, Z1, Z2, ZS⟩ : W.cell? ⟨w.heap.size, 1, none⟩ = some (.int .i64 xc) ∧ W.cell? ⟨w.heap.size, 2, none⟩ = some (.slice A2 x.put.length c2) ∧ W.frozen? ⟨w.heap.size + 1, 0, none⟩ = false ∧ W.frozen? ⟨w.heap.size + 1, 1, none⟩ = false ∧ W.frozen? ⟨w.heap.size + 1, 2, none⟩ = false ∧ W.cell? ⟨w.heap.size + 1, 0, none⟩ = some (.int .i64 0) ∧ W.cell? ⟨w.heap.size + 1, 1, none⟩ = some (.int .i64 0) ∧ W.cell? ⟨w.heap.size + 1, 2, none⟩ = some (.string ⟨#[]⟩) ∧ W.heap.size = w.heap.size + 2 := by
    subst hW; subst hW0; simp [go_sem]
  have hr2 : Row .i64 W (.slice A2 x.put.length c2) x.put := by subst hW; exact hr1
  have hbel : Below w.heap.size w W := by subst hW; subst hW0; exact (((Below.refl _ _).alloc (Nat.le_refl _) _).alloc (by simp) _).drew
  have HZS := Lib.hid ZS
  have HW := Lib.hid hW
  clear hW hr1 ZS
  clear hW0
  iterate 8 still_step
  still_call (by rw [H12.out]; exact (HPK.out _).mono fun _ _ hh => ⟨hh.1, hh.2.symm⟩)
  iterate 2 still_step
  still_call ((textOf_is _ x.put 8 _ hr2 (by omega) (by omega)).mono fun _ _ hh => ⟨hh.1, hh.2.symm⟩)
  still_step
  refine wpStill_nil ?_
  change wpList _ _ _ _ _ W0.drew
  rw [HW.out]
  go_wp2
  all_goals
    refine bodyPost_ret (v := .agg #[.int .i64 p, .int .i64 q, .string ⟨(List.take 8 (List.map letter x.put)).toArray⟩]) (by simp [results, Try.results38, go_sem, Z0, Z1, Z2]) rfl ⟨⟨p, q, ⟨(List.take 8 (List.map letter x.put)).toArray⟩⟩, rfl, by show p + q ≤ n; omega, by show q ≤ 12; omega, by simp [ByteArray.size]; omega, ?_⟩
    exact ((hbel.setCell (by simp) _).setCell (by simp) _).setCell (by simp) _

/-- The text that an edit makes. -/
def mk (s : ByteArray) (e : Ed) : ByteArray := s.extract 0 e.p ++ e.put ++ s.extract (e.p + e.c) s.size
/-- The edit that undoes it. -/
def unmk (s : ByteArray) (e : Ed) : Ed := ⟨e.p, e.put.size, s.extract e.p (e.p + e.c)⟩
theorem mk_size (s : ByteArray) (e : Ed) (h : e.p + e.c ≤ s.size) : (mk s e).size = s.size + e.put.size - e.c := by
  simp only [mk, ByteArray.size_append, ByteArray.size_extract]; omega
theorem mk_list (s : ByteArray) (e : Ed) (h : e.p + e.c ≤ s.size) : (mk s e).data.toList = s.data.toList.take e.p ++ e.put.data.toList ++ s.data.toList.drop (e.p + e.c) := by
  have hl : s.data.toList.length = s.size := by simp
  simp only [mk, append_data, ByteArray.data_extract, Array.toList_extract, List.extract, Nat.sub_zero, List.drop_zero]
  congr 1
  rw [List.take_of_length_le (by rw [List.length_drop, hl]; omega)]
theorem ext_list (s : ByteArray) (a b : Nat) : (s.extract a b).data.toList = (s.data.toList.drop a).take (b - a) := by
  simp only [ByteArray.data_extract, Array.toList_extract, List.extract]
theorem mk_head (s : ByteArray) (e : Ed) (h : e.p + e.c ≤ s.size) : (mk s e).extract 0 e.p = s.extract 0 e.p := by
  have hl : s.data.toList.length = s.size := by simp
  have h1 : (s.data.toList.take e.p).length = e.p := by simp; omega
  apply bytes_ext
  rw [ext_list, ext_list, mk_list s e h, Nat.sub_zero, List.drop_zero, List.drop_zero, List.append_assoc]
  conv => lhs; arg 1; rw [← h1]
  rw [List.take_left]
theorem mk_tail (s : ByteArray) (e : Ed) (h : e.p + e.c ≤ s.size) : (mk s e).extract (e.p + e.put.size) (mk s e).size = s.extract (e.p + e.c) s.size := by
  have hl : s.data.toList.length = s.size := by simp
  have hpl : e.put.data.toList.length = e.put.size := by simp
  have h1 : (s.data.toList.take e.p).length = e.p := by simp; omega
  have hz := mk_size s e h
  apply bytes_ext
  rw [ext_list, ext_list, mk_list s e h]
  have : e.p + e.put.size = (s.data.toList.take e.p ++ e.put.data.toList).length := by rw [List.length_append, h1, hpl]
  rw [hz, show s.size + e.put.size - e.c - (e.p + e.put.size) = s.size - (e.p + e.c) from by omega]
  rw [this, List.drop_left]
theorem mk_mid (s : ByteArray) (e : Ed) (h : e.p + e.c ≤ s.size) : (mk s e).extract e.p (e.p + e.put.size) = e.put := by
  have hl : s.data.toList.length = s.size := by simp
  have hpl : e.put.data.toList.length = e.put.size := by simp
  have h1 : (s.data.toList.take e.p).length = e.p := by simp; omega
  apply bytes_ext
  rw [ext_list, mk_list s e h, show e.p + e.put.size - e.p = e.put.size from by omega, List.append_assoc]
  conv => lhs; arg 2; arg 1; rw [← h1]
  rw [List.drop_left, ← hpl, List.take_left]
theorem unmk_mk (s : ByteArray) (e : Ed) (h : e.p + e.c ≤ s.size) : mk (mk s e) (unmk s e) = s := by
  have hl : s.data.toList.length = s.size := by simp
  have hpl : e.put.data.toList.length = e.put.size := by simp
  apply bytes_ext
  rw [mk_list _ _ (by rw [mk_size s e h]; simp [unmk]; omega), mk_list s e h]
  have h1 : (s.data.toList.take e.p).length = e.p := by simp; omega
  have e1 : (s.data.toList.take e.p ++ e.put.data.toList ++ s.data.toList.drop (e.p + e.c)).take e.p = s.data.toList.take e.p := by
    rw [List.append_assoc]; conv => lhs; arg 1; rw [← h1]
    rw [List.take_left]
  have e2 : (s.data.toList.take e.p ++ e.put.data.toList ++ s.data.toList.drop (e.p + e.c)).drop (e.p + e.put.size) = s.data.toList.drop (e.p + e.c) := by
    have : e.p + e.put.size = (s.data.toList.take e.p ++ e.put.data.toList).length := by rw [List.length_append, h1, hpl]
    rw [this, List.drop_left]
  show List.take e.p _ ++ (s.extract e.p (e.p + e.c)).data.toList ++ List.drop (e.p + e.put.size) _ = _
  rw [e1, e2]
  simp only [ByteArray.data_extract, Array.toList_extract, List.extract]
  rw [show e.p + e.c - e.p = e.c from by omega, List.append_assoc, ← List.drop_drop, List.take_append_drop, List.take_append_drop]

set_option maxRecDepth 100000 in
set_option maxHeartbeats 1000000 in
theorem made_any (s : ByteArray) (p c : Nat) (put : ByteArray) (w : World) (h : p + c ≤ s.size) (hs : s.size ≤ 100000) (hp : put.size ≤ 100000) :
    Calls Try.prog 44 #[.string s, .agg #[.int .i64 p, .int .i64 c, .string put]] w fun e w' => e = .returned (.string (mk s ⟨p, c, put⟩)) ∧ Below w.heap.size w w' := by
  unfold mk
  go_enter Try.func44, Try.ntmps44
  go_wp2
  go_quiet (fail)
  go_wp2
  go_ret
  exact ⟨rfl, below_drewN ((Below.refl _ _).alloc (Nat.le_refl _) _) _⟩

set_option maxRecDepth 100000 in
set_option maxHeartbeats 1000000 in
theorem undo_any (s : ByteArray) (p c : Nat) (put : ByteArray) (w : World) (h : p + c ≤ s.size) (hs : s.size ≤ 100000) (hp : put.size ≤ 100000) :
    Calls Try.prog 79 #[.string s, .agg #[.int .i64 p, .int .i64 c, .string put]] w fun e w' => e = .returned (.agg #[.int .i64 p, .int .i64 put.size, .string (s.extract p (p + c))]) ∧ Below w.heap.size w w' := by
  go_enter Try.func79, Try.ntmps79
  go_wp2
  go_region
  go_wp2
  refine bodyPost_ret (v := .agg #[.int .i64 p, .int .i64 put.size, .string (s.extract p (p + c))]) (by simp [results, Try.results79, go_sem]) rfl ⟨rfl, ?_⟩
  exact (((Below.refl _ _).alloc (Nat.le_refl _) _).alloc (by simp) _).drew

set_option maxRecDepth 100000 in
set_option maxHeartbeats 1000000 in
theorem check_any (n p c : Nat) (put : ByteArray) (w : World) (h : p + c ≤ n) (hn : n ≤ 600) (hp : n - c + put.size ≤ 600) :
    Calls Try.prog 42 #[.int .i64 n, .agg #[.int .i64 p, .int .i64 c, .string put]] w fun e w' => e = .returned (.int .i64 0) ∧ Below w.heap.size w w' := by
  go_enter Try.func42, Try.ntmps42
  go_wp2
  go_ret
  exact ⟨rfl, (Below.refl _ _).alloc (Nat.le_refl _) _⟩
end Go.Proofs.Ytpgjjnbepkofdaa
