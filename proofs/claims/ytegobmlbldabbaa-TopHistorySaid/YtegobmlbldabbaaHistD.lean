/-
  The walk of the history's Deed: what it answers and what it makes of the history, for each kind of deed.
-/
import Derived.Test.YtegobmlbldabbaaHistK
namespace Go.Proofs.Ytegobmlbldabbaa
open Go.RowKit
set_option linter.unusedVariables false

def ddv : Dd → Value
  | .do_ e => .agg #[.int .i64 1, .int .i64 e.p, .int .i64 e.c, .string e.put]
  | .close => .agg #[.int .i64 2, .int .i64 0, .int .i64 0, .string ⟨#[]⟩]
  | .undo => .agg #[.int .i64 3, .int .i64 0, .int .i64 0, .string ⟨#[]⟩]
  | .redo => .agg #[.int .i64 4, .int .i64 0, .int .i64 0, .string ⟨#[]⟩]
def dOk : Dd → Prop
  | .do_ e => e.p ≤ 100000 ∧ e.c ≤ 100000 ∧ e.put.size ≤ 100000
  | _ => True
def DeedPost (B R : Nat) (h : Hs) (d : Dd) (w : World) (e : Ending) (w' : World) : Prop :=
  ∃ v, e = .returned (.tuple #[v, .int .i64 ((deed h d).2 : Int)]) ∧ HM w' B R (deed h d).1 ∧ Below B w w' ∧ TK w w'
set_option maxRecDepth 100000 in
set_option maxHeartbeats 4000000 in
theorem deed_do (B R n : Nat) (b0 : ByteArray) (h : Hs) (p c : Nat) (put : ByteArray) (w : World) (hm : HM w B R h) (hg : Good n b0 h) (hn : n ≤ 100) (hp : p ≤ 100000) (hc : c ≤ 100000) (hpu : put.size ≤ 100000) :
    Calls Try.prog 86 #[.pointer (some ⟨R, 0, none⟩), ddv (.do_ ⟨p, c, put⟩)] w (DeedPost B R h (.do_ ⟨p, c, put⟩) w) := by
  have hbl : Below w.heap.size w (w.alloc (.cells #[.int .i64 1, .int .i64 (p : Int), .int .i64 (c : Int), .string put] 36)) := (Below.refl _ _).alloc (Nat.le_refl _) _
  have hD := Blk.new w 36 #[.int .i64 1, .int .i64 (p : Int), .int .i64 (c : Int), .string put]
  have hm1 := hm.below hbl
  have hBs : B ≤ w.heap.size := by obtain ⟨M, vu, vr, us, rs, h1, _, _⟩ := hm; exact Nat.le_trans h1.mb h1.ms
  have hb1 : Below B w (w.alloc (.cells #[.int .i64 1, .int .i64 (p : Int), .int .i64 (c : Int), .string put] 36)) := hbl.mono hBs
  have hk1 := TK.below hbl
  have hD0 : (w.alloc (.cells #[.int .i64 1, .int .i64 (p : Int), .int .i64 (c : Int), .string put] 36)).cell? ⟨w.heap.size, 0, none⟩ = some (.int .i64 1) := by rw [hD.cell]; rfl
  clear hbl hm
  have hsz := hg.size
  unfold ddv
  obtain ⟨M, vu, vr, us, rs, h1, hu, hr⟩ := hm1
  obtain ⟨t, us0, rs0, o⟩ := h
  simp only at h1 hu hr hsz
  subst hu hr
  by_cases hch : chk t.size ⟨p, c, put⟩ = 0
  · have hlen := hg.few
    simp only [List.length_map] at hlen
    have hop := hg.opn
    simp only at hop
    have hll := hg.len
    simp only at hll
    have HCall := Lib.hid (make_ok B R M t vu vr us rs o p c put _ h1 (fun e => by have := (hop e).1; simpa using this) (by omega) (fun x hx => by have := hll x.g (List.mem_append.2 (.inl (List.mem_map_of_mem hx))); omega) hsz hch)
    have HD := Lib.hid hD
    have HB := Lib.hid hb1
    have HK := Lib.hid hk1
    clear h1 hD hb1 hk1 hop hll hlen hg
    have e2 : deed ⟨t, us.map GE.g, rs.map GE.g, o⟩ (.do_ ⟨p, c, put⟩) = (⟨mk t ⟨p, c, put⟩, addTo (if o then us.map GE.g else trim (us.map GE.g ++ [⟨[], []⟩])) ⟨p, c, put⟩ (unmk t ⟨p, c, put⟩), [], true⟩, 0) := by
      simp [deed, hch, opened]
    unfold DeedPost
    rw [e2]
    have hl : w.heap.size < (w.alloc (.cells #[.int .i64 1, .int .i64 (p : Int), .int .i64 (c : Int), .string put] 36)).heap.size := by simp
    have hD1 : (w.alloc (.cells #[.int .i64 1, .int .i64 (p : Int), .int .i64 (c : Int), .string put] 36)).cell? ⟨w.heap.size, 1, none⟩ = some (.int .i64 (p : Int)) := by rw [HD.out.cell]; rfl
    have hD2 : (w.alloc (.cells #[.int .i64 1, .int .i64 (p : Int), .int .i64 (c : Int), .string put] 36)).cell? ⟨w.heap.size, 2, none⟩ = some (.int .i64 (c : Int)) := by rw [HD.out.cell]; rfl
    have hD3 : (w.alloc (.cells #[.int .i64 1, .int .i64 (p : Int), .int .i64 (c : Int), .string put] 36)).cell? ⟨w.heap.size, 3, none⟩ = some (.string put) := by rw [HD.out.cell]; rfl
    clear e2 hch
    generalize (if o then us.map GE.g else trim (us.map GE.g ++ [⟨[], []⟩])) = LL at *
    go_enter Try.func86, Try.ntmps86
    go_wp2_with (
      go_at_call 99
      refine HCall.out.mono ?_
      rintro e w1 ⟨rfl, hb1, hk1, M', vu', us', h2, hl2⟩
      have hD1' : Blk w1 w.heap.size 36 #[.int .i64 1, .int .i64 (p : Int), .int .i64 (c : Int), .string put] := hk1 _ _ _ _ HD.out (by decide) (by decide) (by decide)
      have hl1 := hD1'.lt
      have c1 : w1.cell? ⟨w.heap.size, 1, none⟩ = some (.int .i64 (p : Int)) := by rw [hD1'.cell]; rfl
      have c2 : w1.cell? ⟨w.heap.size, 2, none⟩ = some (.int .i64 (c : Int)) := by rw [hD1'.cell]; rfl
      have c3 : w1.cell? ⟨w.heap.size, 3, none⟩ = some (.string put) := by rw [hD1'.cell]; rfl
      have hal : Below w1.heap.size w1 (w1.alloc (.cells #[.int .i64 (p : Int), .int .i64 (c : Int), .string put] 34)) := (Below.refl _ _).alloc (Nat.le_refl _) _
      have HH := Lib.hid (h2.below hal)
      have HK2 := Lib.hid ((HK.out.trans hk1).trans (TK.below hal))
      have HB2 := Lib.hid ((HB.out.trans hb1).trans (hal.mono (Nat.le_trans h2.mb h2.ms)))
      have HL2 := Lib.hid hl2
      clear hD1' hal h2 hk1 hb1 hl2 hD0 hD1 hD2 hD3)
    refine bodyPost_ret (v := .tuple #[.slice (some ⟨w1.heap.size, 0, none⟩) 1 1, .int .i64 0]) (by simp [results, Try.results86, go_sem]) rfl ⟨_, rfl, ⟨M', vu', .slice none 0 0, us', [], HH.out, HL2.out, rfl⟩, HB2.out, HK2.out⟩
  · have HCall := Lib.hid (make_bad R t vu vr (.bool o) p c put _ h1.hist hsz hp hc hpu hch)
    have HD := Lib.hid hD
    have HB := Lib.hid hb1
    have HK := Lib.hid hk1
    have HM := Lib.hid h1
    have hMs := Nat.le_trans h1.mb h1.ms
    clear h1 hD hb1 hk1 hg
    have e2 : deed ⟨t, us.map GE.g, rs.map GE.g, o⟩ (.do_ ⟨p, c, put⟩) = (⟨t, us.map GE.g, rs.map GE.g, o⟩, chk t.size ⟨p, c, put⟩) := by
      simp [deed, hch]
    unfold DeedPost
    rw [e2]
    have hl : w.heap.size < (w.alloc (.cells #[.int .i64 1, .int .i64 (p : Int), .int .i64 (c : Int), .string put] 36)).heap.size := by simp
    have hD1 : (w.alloc (.cells #[.int .i64 1, .int .i64 (p : Int), .int .i64 (c : Int), .string put] 36)).cell? ⟨w.heap.size, 1, none⟩ = some (.int .i64 (p : Int)) := by rw [HD.out.cell]; rfl
    have hD2 : (w.alloc (.cells #[.int .i64 1, .int .i64 (p : Int), .int .i64 (c : Int), .string put] 36)).cell? ⟨w.heap.size, 2, none⟩ = some (.int .i64 (c : Int)) := by rw [HD.out.cell]; rfl
    have hD3 : (w.alloc (.cells #[.int .i64 1, .int .i64 (p : Int), .int .i64 (c : Int), .string put] 36)).cell? ⟨w.heap.size, 3, none⟩ = some (.string put) := by rw [HD.out.cell]; rfl
    have hne : ((chk t.size ⟨p, c, put⟩ : Nat) : Int) ≠ 0 := by omega
    clear e2 hch
    generalize chk t.size ⟨p, c, put⟩ = k at *
    have hk : decide ((k : Int) = 0) = false := by simpa using hne
    go_enter Try.func86, Try.ntmps86
    go_wp2_with (go_at_call 99; refine HCall.out.mono ?_; rintro e w1 ⟨rfl, hb1⟩)
    refine bodyPost_ret (v := .tuple #[.slice none 0 0, .int .i64 (k : Int)]) (by simp [results, Try.results86, go_sem]) rfl ⟨_, rfl, ⟨M, vu, vr, us, rs, HM.out.below hb1, rfl, rfl⟩, HB.out.trans (hb1.mono hMs), HK.out.trans (TK.below hb1)⟩
set_option maxRecDepth 100000 in
set_option maxHeartbeats 4000000 in
theorem deed_close (B R : Nat) (h : Hs) (w : World) (hm : HM w B R h) :
    Calls Try.prog 86 #[.pointer (some ⟨R, 0, none⟩), ddv .close] w (DeedPost B R h .close w) := by
  have hbl : Below w.heap.size w (w.alloc (.cells #[.int .i64 2, .int .i64 0, .int .i64 0, .string ⟨#[]⟩] 36)) := (Below.refl _ _).alloc (Nat.le_refl _) _
  have hD := Blk.new w 36 #[.int .i64 2, .int .i64 0, .int .i64 0, .string ⟨#[]⟩]
  have hm1 := hm.below hbl
  have hBs : B ≤ w.heap.size := by obtain ⟨M, vu, vr, us, rs, h1, _, _⟩ := hm; exact Nat.le_trans h1.mb h1.ms
  have hb1 : Below B w (w.alloc (.cells #[.int .i64 2, .int .i64 0, .int .i64 0, .string ⟨#[]⟩] 36)) := hbl.mono hBs
  have hk1 := TK.below hbl
  have hD0 : (w.alloc (.cells #[.int .i64 2, .int .i64 0, .int .i64 0, .string ⟨#[]⟩] 36)).cell? ⟨w.heap.size, 0, none⟩ = some (.int .i64 2) := by rw [hD.cell]; rfl
  clear hbl hm
  unfold ddv
  obtain ⟨M, vu, vr, us, rs, h1, hu, hr⟩ := hm1
  obtain ⟨t, us0, rs0, o⟩ := h
  simp only at h1 hu hr
  subst hu hr
  have c3 : (w.alloc (.cells #[.int .i64 2, .int .i64 0, .int .i64 0, .string ⟨#[]⟩] 36)).cell? ⟨R, 3, none⟩ = some (.bool o) := by rw [h1.hist.cell]; rfl
  have f3 := h1.hist.frozen 3
  have hRl := h1.hist.lt
  have hg5 := grown_set (w.alloc (.cells #[.int .i64 2, .int .i64 0, .int .i64 0, .string ⟨#[]⟩] 36)) ⟨R, 3, none⟩ (.bool false)
  have h5 := (h1.toQ.rehist hg5 (h1.hist.set_ 3 (.bool false))).toHM
  have HK := Lib.hid (hk1.trans (TK.hist h1.hist hg5))
  have HB := Lib.hid (hb1.setCell (p := ⟨R, 3, none⟩) h1.rb (.bool false))
  have H5 := Lib.hid h5
  have hl : w.heap.size < (w.alloc (.cells #[.int .i64 2, .int .i64 0, .int .i64 0, .string ⟨#[]⟩] 36)).heap.size := by simp
  clear h5 hg5 h1 hb1 hk1 hD
  go_enter Try.func86, Try.ntmps86
  go_wp2_with fail
  refine bodyPost_ret (v := .tuple #[.slice none 0 0, .int .i64 0]) (by simp [results, Try.results86, go_sem]) rfl ⟨_, rfl, ⟨_, vu, vr, us, rs, H5.out, rfl, rfl⟩, HB.out, HK.out⟩
end Go.Proofs.Ytegobmlbldabbaa
