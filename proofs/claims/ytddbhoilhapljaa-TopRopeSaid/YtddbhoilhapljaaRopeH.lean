/-
  The walks of rope.Depths and rope.Measure.
-/
import Derived.Test.YtddbhoilhapljaaRopeG
import Derived.Test.YtddbhoilhapljaaCRow
import Derived.Test.YtddbhoilhapljaaRopeY
namespace Go.Proofs.Ytddbhoilhapljaa
open Go.RowKit
set_option linter.unusedVariables false

theorem runT_cnt (l : List Ro) : ∀ ts, (runT ts l).1.length ≤ ts.length + l.length := by
  induction l with
  | nil => intro ts; simp [runT]
  | cons o l ih =>
    intro ts
    have := ih (stepT ts o).1
    have h2 : (stepT ts o).1.length ≤ ts.length + 1 := by unfold stepT; split <;> simp
    simp only [runT, List.length_cons]; omega
/-- What a slice of ropes says of the one at a place. -/
theorem ropes_at {w1 : World} {base c1 : Nat} {A1 : Option Addr} {vals : List Value} {os : List (Option T)} (ho1 : w1.ownsRow base 110 1 (.slice A1 os.length c1) os.length vals)
    (hro1 : ∀ (i : Nat) (o : Option T), os[i]? = some o → ∃ u, vals[i]? = some u ∧ RO w1 u o) {k : Nat} (hlt : k < os.length) :
    ∃ g p, A1 = some ⟨g, 0, none⟩ ∧ g < w1.heap.size ∧ w1.cell? ⟨g, k, none⟩ = some (.pointer p) ∧ RO w1 (.pointer p) os[k] := by
  obtain ⟨u, hu, hru⟩ := hro1 k os[k] (by simp [hlt])
  obtain ⟨pu, rfl⟩ := hru.shape
  rcases ho1.2 with ⟨e1, e2⟩ | ⟨g, cap, cur, e1, e2, e3, e4, e5, e6, e7⟩
  · omega
  · injection e1 with e1 e8 e9
    refine ⟨g, pu, e1, (Array.getElem?_eq_some_iff.1 e3).1, ?_, hru⟩
    have h8 : (List.take (os.length * 1) cur.toList)[k]? = some (.pointer pu) := by rw [e7]; exact hu
    rw [List.getElem?_take_of_lt (by omega), Array.getElem?_toList] at h8
    simp [World.cell?, e3, h8]
theorem own_ne2 {w : World} {b1 b2 s1 s2 n1 n2 : Nat} {e1 e2 : TypeId} {v1 v2 : Value} {x1 x2 : List Value} (h : w.ownsRow b1 e1 s1 v1 n1 x1) (k : w.ownsRow b2 e2 s2 v2 n2 x2) (hne : e1 ≠ e2) : v1.ownBlock = none ∨ v1.ownBlock ≠ v2.ownBlock := by
  rcases k.2 with ⟨rfl, _⟩ | ⟨g, cap, cur, rfl, _, hh, _⟩
  · rcases h.2 with ⟨rfl, _⟩ | ⟨g, cap, cur, rfl, _, hh, _⟩
    · exact .inl rfl
    · right; simp [Value.ownBlock]
  · right; exact own_blk_ne h hh hne
theorem intR_info : (Try.prog.info? 3).map (fun i => (i.zero, i.size, i.bytes)) = some (some (.int .i64 0), 1, 8) := by kernel_rfl
theorem posR_info : (Try.prog.info? 78).map (fun i => (i.zero, i.size, i.bytes)) = some (some (.agg #[.int .i64 0, .int .i64 0, .int .i64 0]), 3, 24) := by kernel_rfl
theorem hashR_info : (Try.prog.info? 82).map (fun i => (i.zero, i.size, i.bytes)) = some (some (.agg #[.int .i64 0, .int .i64 0]), 2, 16) := by kernel_rfl
def dpV (o : Option T) : Value := .int .i64 (odp o : Int)
def posC (l : List UInt8) : List Value := [.int .i64 (l.length : Int), .int .i64 (lnsL l : Int), .int .i64 (colL l : Int)]
def hashC (l : List UInt8) : List Value := [.int .i64 (hv l), .int .i64 (hs l)]
theorem posC_len (l : List UInt8) : (posC l).length = 3 := rfl
theorem hashC_len (l : List UInt8) : (hashC l).length = 2 := rfl
def DepthsP (l : List Ro) (w : World) (e : Ending) (w' : World) : Prop :=
  ∃ (va : Value) (os : List (Option T)), e = .returned (.tuple #[va, .int .i64 0]) ∧ os.map otx = (runT [] l).1 ∧ (∀ o ∈ os, ook o) ∧ w'.ownsRow w.heap.size 3 1 va os.length (os.map dpV) ∧ Below w.heap.size w w'
set_option maxRecDepth 100000 in
set_option maxHeartbeats 8000000 in
theorem depths_any (v : Value) (l : List Ro) (w : World) (h : CRow 6 roc w v l) (hl : l.length ≤ 80) (hv : vldT [] l) :
    Calls Try.prog 33 #[v] w (DepthsP l w) := by
  have HA := Lib.hid (rplay_any v l w h hl hv)
  obtain ⟨A, cap, rfl, h1, h2, hr⟩ := h
  have hcnt := runT_cnt l []
  simp only [List.length_nil, Nat.zero_add] at hcnt
  clear hr hv
  go_enter Try.func33, Try.ntmps33
  go_wp2_with fail
  refine HA.out.mono ?_
  rintro e w1 ⟨va, vals, os, vc, rfl, ho1, hro1, hok, hts, hoc, hb1⟩
  have hcn : os.length ≤ 80 := by
    have hol : os.length = (runT [] l).1.length := by rw [← hts, List.length_map]
    omega
  obtain ⟨A1, c1, rfl, hA1, hA2⟩ := own_slice ho1
  obtain ⟨Ac, cc, rfl, hcc1, hcc2⟩ := own_slice hoc
  clear hoc HA hcnt
  go_wp2_with fail
  have hs1 := hb1.size
  go_loopw [7, 18] (fun vt i wr => ∃ k : Nat, k ≤ os.length ∧ i = .int .i64 k ∧ wr.ownsRow w1.heap.size 3 1 vt k ((os.take k).map dpV) ∧ Below w1.heap.size w1 wr) (fun _ i _ => os.length - (intOf i).toNat)
  case atStart => exact ⟨0, Nat.zero_le _, rfl, World.ownsRow_nil _ _ _ _, Below.refl _ _⟩
  case round =>
    obtain ⟨k, hk, rfl, ht, hb⟩ := hrel
    by_cases hlt : k < os.length
    · obtain ⟨g, pu, rfl, hg, hcl, hru⟩ := ropes_at ho1 hro1 hlt
      have HS := Lib.hid (deep_any _ os[k] wr (hru.below hb))
      have hc := (hb.cell (p := ⟨g, k, none⟩) hg).trans hcl
      obtain ⟨At, ct, rfl, hat1, hat2⟩ := own_slice ht
      have HT := Lib.hid ht
      have HB := Lib.hid hb
      clear ht hb hcl hru hro1 hok hts ho1
      go_wp2_with fail
      refine HS.out.mono ?_
      rintro e w2 ⟨rfl, hb2⟩
      have HO2 := Lib.hid (own_below HT.out hb2)
      have HB2 := Lib.hid (bstep HB.out hb2)
      have hs2 := HB2.out.size
      clear HS hb2
      go_wp2_with (at_builtin; refine wpList_appN rfl (.tmp 22) (.tmp 25) _ rfl w1.heap.size 3 _ 1 8 Try.underlying22 intR_info rfl (by decide) _ k _ rfl HO2.out [.int .i64 (odp os[k] : Int)] rfl w2.heap.size rfl rfl rfl (by simp [Value.oneCell']) (by omega) (by omega) hs2 ?_; intro v8 w8 ho8 hB8 hg8; have HB8 := Lib.hid (hB8 _ (Nat.le_refl _) _ HB2.out); have HO8 := Lib.hid ho8; clear ho8 hB8 hg8)
      go_roundw
      case rel =>
        refine ⟨k + 1, by omega, by go_num, ?_, HB8.out⟩
        rw [List.take_succ_eq_append_getElem hlt, List.map_append]
        exact HO8.out
      case measure => simp [intOf]; omega
    · obtain rfl : k = os.length := by omega
      rw [List.take_length] at ht
      obtain ⟨At, ct, rfl, hat1, hat2⟩ := own_slice ht
      have HT := Lib.hid ht
      have HB := Lib.hid hb
      have HB1 := Lib.hid hb1
      have HOK := Lib.hid (And.intro hts hok)
      clear ht hb hro1 hok hts ho1 hb1
      go_wp2_with fail
      go_ret2
      exact ⟨_, os, rfl, HOK.out.1, HOK.out.2, own_mono HT.out hs1, bstep HB1.out HB.out⟩
def MeasureP (l : List Ro) (w : World) (e : Ending) (w' : World) : Prop :=
  ∃ (va vh : Value), e = .returned (.tuple #[va, vh, .int .i64 0]) ∧ w'.ownsRow w.heap.size 78 3 va (runT [] l).1.length (cellsOf posC (runT [] l).1) ∧ w'.ownsRow w.heap.size 82 2 vh (runT [] l).1.length (cellsOf hashC (runT [] l).1) ∧ Below w.heap.size w w'
set_option maxRecDepth 100000 in
set_option maxHeartbeats 8000000 in
theorem measure_any (v : Value) (l : List Ro) (w : World) (h : CRow 6 roc w v l) (hl : l.length ≤ 80) (hv : vldT [] l) :
    Calls Try.prog 34 #[v] w (MeasureP l w) := by
  have HA := Lib.hid (rplay_any v l w h hl hv)
  obtain ⟨A, cap, rfl, h1, h2, hr⟩ := h
  have hcnt := runT_cnt l []
  simp only [List.length_nil, Nat.zero_add] at hcnt
  clear hr hv
  go_enter Try.func34, Try.ntmps34
  go_wp2_with fail
  refine HA.out.mono ?_
  rintro e w1 ⟨va, vals, os, vc, rfl, ho1, hro1, hok, hts, hoc, hb1⟩
  have hcn : os.length ≤ 80 := by
    have hol : os.length = (runT [] l).1.length := by rw [← hts, List.length_map]
    omega
  obtain ⟨A1, c1, rfl, hA1, hA2⟩ := own_slice ho1
  obtain ⟨Ac, cc, rfl, hcc1, hcc2⟩ := own_slice hoc
  clear hoc HA hcnt
  go_wp2_with fail
  have hs1 := hb1.size
  go_loopw [8, 9, 20] (fun vt vh i wr => ∃ k : Nat, k ≤ os.length ∧ i = .int .i64 k ∧ wr.ownsRow w1.heap.size 78 3 vt k (cellsOf posC ((os.take k).map otx)) ∧ wr.ownsRow w1.heap.size 82 2 vh k (cellsOf hashC ((os.take k).map otx)) ∧ Below w1.heap.size w1 wr) (fun _ _ i _ => os.length - (intOf i).toNat)
  case atStart => exact ⟨0, Nat.zero_le _, rfl, World.ownsRow_nil _ _ _ _, World.ownsRow_nil _ _ _ _, Below.refl _ _⟩
  case round =>
    obtain ⟨k, hk, rfl, ht, hh, hb⟩ := hrel
    by_cases hlt : k < os.length
    · obtain ⟨g, pu, rfl, hg, hcl, hru⟩ := ropes_at ho1 hro1 hlt
      have HS := Lib.hid (fun W (hB : Below w1.heap.size w1 W) => ropePos_any _ os[k] W (hru.below hB))
      have HH := Lib.hid (fun W (hB : Below w1.heap.size w1 W) => hash_any _ os[k] W (hru.below hB))
      unfold posv at HS
      unfold hashv at HH
      have hc := (hb.cell (p := ⟨g, k, none⟩) hg).trans hcl
      obtain ⟨At, ct, rfl, hat1, hat2⟩ := own_slice ht
      obtain ⟨Ah, ch, rfl, hah1, hah2⟩ := own_slice hh
      have HT := Lib.hid ht
      have HHH := Lib.hid hh
      have HB := Lib.hid hb
      clear ht hh hb hcl hru hro1 hok hts ho1
      go_wp2_with fail
      refine (HS.out _ HB.out).mono ?_
      rintro e w2 ⟨rfl, hb2⟩
      have HO2 := Lib.hid (own_below HT.out hb2)
      have HQ2 := Lib.hid (own_below HHH.out hb2)
      have HB2 := Lib.hid (bstep HB.out hb2)
      have hs2 := HB2.out.size
      generalize hx : otx os[k] = tx at *
      clear HS hb2
      go_wp2_with (at_builtin; go_loud (refine wpList_appN rfl (.tmp 24) (.tmp 27) _ rfl w1.heap.size 78 _ 3 24 Try.underlying73 posR_info rfl (by decide) (.slice At k ct) k _ rfl HO2.out (posC tx) rfl w2.heap.size rfl rfl rfl (by simp [Value.oneCell', posC]) (by omega) (by omega) hs2 ?_; intro v8 w8 ho8 hB8 hg8; have HB8 := Lib.hid (hB8 _ (Nat.le_refl _) _ HB2.out); have HO8 := Lib.hid ho8; have HQ8 := Lib.hid (HQ2.out.kept hg8 (own_ne2 HQ2.out HO2.out (by decide))); obtain ⟨A8, c8', rfl, hA8, hA82⟩ := own_slice ho8; clear ho8 hB8 hg8))
      have hs8 := HB8.out.size
      clear HO2 HQ2
      go_wp2_with fail
      refine (HH.out _ HB8.out).mono ?_
      rintro e w3 ⟨rfl, hb3⟩
      have HO3 := Lib.hid (own_below HO8.out hb3)
      have HQ3 := Lib.hid (own_below HQ8.out hb3)
      have HB3 := Lib.hid (bstep HB8.out hb3)
      have hs3 := HB3.out.size
      clear HH hb3 HO8 HQ8
      go_wp2_with (at_builtin; refine wpList_appN rfl (.tmp 29) (.tmp 32) _ rfl w1.heap.size 82 _ 2 16 Try.underlying74 hashR_info rfl (by decide) (.slice Ah k ch) k _ rfl HQ3.out (hashC tx) rfl w3.heap.size rfl rfl rfl (by simp [Value.oneCell', hashC]) (by omega) (by omega) hs3 ?_; intro v9 w9 ho9 hB9 hg9; have HB9 := Lib.hid (hB9 _ (Nat.le_refl _) _ HB3.out); have HQ9 := Lib.hid ho9; have HO9 := Lib.hid (HO3.out.kept hg9 (own_ne2 HO3.out HQ3.out (by decide))); clear ho9 hB9 hg9)
      go_roundw
      case rel =>
        refine ⟨k + 1, by omega, by go_num, ?_, ?_, HB9.out⟩
        · rw [List.take_succ_eq_append_getElem hlt, List.map_append, cellsOf_append, List.map_cons, List.map_nil, cellsOf_one, hx]
          exact HO9.out
        · rw [List.take_succ_eq_append_getElem hlt, List.map_append, cellsOf_append, List.map_cons, List.map_nil, cellsOf_one, hx]
          exact HQ9.out
      case measure => simp [intOf]; omega
    · obtain rfl : k = os.length := by omega
      rw [List.take_length] at ht hh
      obtain ⟨At, ct, rfl, hat1, hat2⟩ := own_slice ht
      obtain ⟨Ah, ch, rfl, hah1, hah2⟩ := own_slice hh
      have HT := Lib.hid ht
      have HHH := Lib.hid hh
      have HB := Lib.hid hb
      have HB1 := Lib.hid hb1
      have HOK := Lib.hid hts
      clear ht hh hb hro1 hok hts ho1 hb1
      go_wp2_with fail
      go_ret3
      have e9 : os.length = (runT [] l).1.length := by rw [← HOK.out, List.length_map]
      have hT := HT.out
      have hH := HHH.out
      rw [HOK.out] at hT hH
      exact ⟨_, _, rfl, by rw [← e9]; exact own_mono hT hs1, by rw [← e9]; exact own_mono hH hs1, bstep HB1.out HB.out⟩
end Go.Proofs.Ytddbhoilhapljaa
