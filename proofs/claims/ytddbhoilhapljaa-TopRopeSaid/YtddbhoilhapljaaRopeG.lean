/-
  The walks of the rope's getters: Deep, Pos, Hash.
-/
import Derived.Test.YtddbhoilhapljaaRopeN
namespace Go.Proofs.Ytddbhoilhapljaa
open Go.RowKit
set_option linter.unusedVariables false

set_option maxRecDepth 100000 in
theorem deep_any (v : Value) (o : Option T) (w : World) (h : RO w v o) :
    Calls Try.prog 57 #[v] w fun e w' => e = .returned (.int .i64 (odp o : Int)) ∧ Below w.heap.size w w' := by
  cases o with
  | none =>
    have h' : v = .pointer none := h
    subst h'
    go_enter Try.func57, Try.ntmps57
    go_wp2
    go_ret
    exact ⟨rfl, Below.refl _ _⟩
  | some t =>
    obtain ⟨g, rfl, hr⟩ := h
    obtain ⟨s, p, hb⟩ := hr.blk
    have c3 : w.cell? ⟨g, 2, none⟩ = some (.int .i64 (t.dp : Int)) := by rw [hb.cell]; rfl
    clear hb hr
    go_enter Try.func57, Try.ntmps57
    go_wp2
    go_ret
    exact ⟨rfl, Below.refl _ _⟩
set_option maxRecDepth 100000 in
theorem ropePos_any (v : Value) (o : Option T) (w : World) (h : RO w v o) :
    Calls Try.prog 58 #[v] w fun e w' => e = .returned (posv (otx o)) ∧ Below w.heap.size w w' := by
  cases o with
  | none =>
    have h' : v = .pointer none := h
    subst h'
    go_enter Try.func58, Try.ntmps58
    go_wp2
    refine bodyPost_ret (v := .agg #[.int .i64 0, .int .i64 0, .int .i64 0]) (by simp [results, Try.results58, go_sem]) rfl ⟨rfl, ?_⟩
    exact (Below.refl _ _).alloc (Nat.le_refl _) _
  | some t =>
    obtain ⟨g, rfl, hr⟩ := h
    obtain ⟨s, p, hb⟩ := hr.blk
    have hg := hb.lt
    have c3 : w.cell? ⟨g, 3, none⟩ = some (.int .i64 (t.tx.length : Int)) := by rw [hb.cell]; rfl
    have c4 : w.cell? ⟨g, 4, none⟩ = some (.int .i64 (lnsL t.tx : Int)) := by rw [hb.cell]; rfl
    have c5 : w.cell? ⟨g, 5, none⟩ = some (.int .i64 (colL t.tx : Int)) := by rw [hb.cell]; rfl
    clear hb hr
    go_enter Try.func58, Try.ntmps58
    go_wp2
    refine bodyPost_ret (v := posv t.tx) (by simp [results, Try.results58, go_sem, posv]) rfl ⟨rfl, ?_⟩
    exact (Below.refl _ _).alloc (Nat.le_refl _) _
def hashv (l : List UInt8) : Value := .agg #[.int .i64 (hv l), .int .i64 (hs l)]
set_option maxRecDepth 100000 in
theorem hash_any (v : Value) (o : Option T) (w : World) (h : RO w v o) :
    Calls Try.prog 59 #[v] w fun e w' => e = .returned (hashv (otx o)) ∧ Below w.heap.size w w' := by
  cases o with
  | none =>
    have h' : v = .pointer none := h
    subst h'
    have HH := Lib.hid (fun W => polyOf_any ⟨#[]⟩ W (by decide))
    go_enter Try.func59, Try.ntmps59
    go_wp2_with fail
    refine (HH.out _).mono ?_
    rintro e w1 ⟨rfl, hb⟩
    have hb1 := bstep_alloc hb
    have hBk := Blk.below (Blk.new w 82 #[.int .i64 0, .int .i64 0]) hb (by simp)
    have k0 := hBk.frozen 0
    have k1 := hBk.frozen 1
    have j0 : w1.cell? ⟨w.heap.size, 0, none⟩ = some (.int .i64 0) := by rw [hBk.cell]; rfl
    have j1 : w1.cell? ⟨w.heap.size, 1, none⟩ = some (.int .i64 0) := by rw [hBk.cell]; rfl
    have hs1 := hb.size
    simp only [World.size_alloc] at hs1
    clear hb
    go_wp2_with fail
    have hB2 := (hBk.set_ 0 (.int .i64 (hv []))).set_ 1 (.int .i64 (hs []))
    have c0 := hB2.cell 0
    have c1 := hB2.cell 1
    simp at c0 c1
    refine bodyPost_ret (v := hashv []) (by simp [results, Try.results59, go_sem, hashv, c0, c1]) rfl ⟨rfl, ?_⟩
    exact (hb1.setCell (p := ⟨w.heap.size, 0, none⟩) (Nat.le_refl _) _).setCell (p := ⟨w.heap.size, 1, none⟩) (Nat.le_refl _) _
  | some t =>
    obtain ⟨g, rfl, hr⟩ := h
    obtain ⟨s, p, hb⟩ := hr.blk
    have hg := hb.lt
    have c3 : w.cell? ⟨g, 6, none⟩ = some (.int .i64 (hv t.tx)) := by rw [hb.cell]; rfl
    have c4 : w.cell? ⟨g, 7, none⟩ = some (.int .i64 (hs t.tx)) := by rw [hb.cell]; rfl
    clear hb hr
    go_enter Try.func59, Try.ntmps59
    go_wp2
    refine bodyPost_ret (v := hashv t.tx) (by simp [results, Try.results59, go_sem, hashv]) rfl ⟨rfl, ?_⟩
    exact (Below.refl _ _).alloc (Nat.le_refl _) _
end Go.Proofs.Ytddbhoilhapljaa
