/-
  The walk of the statements' helper savable: deeds that can be saved.
-/
import Derived.Test.YtegobmlbldabbaaDeedsB
import Derived.Test.YtegobmlbldabbaaLogF
namespace Go.Proofs.Ytegobmlbldabbaa
open Go.RowKit
set_option linter.unusedVariables false

def rdOf (d : Dd) : Rd := ⟨dk d, (de d).p, (de d).c, (de d).put⟩
theorem rdc_rdOf (d : Dd) : rdc (rdOf d) = ddc d := rfl
theorem cells_rdOf (ds : List Dd) : cellsOf rdc (ds.map rdOf) = cellsOf ddc ds := by
  induction ds with
  | nil => rfl
  | cons d ds ih => rw [List.map_cons, cellsOf_cons, cellsOf_cons, ih, rdc_rdOf]
theorem okd_rdOf (d : Dd) (n : Nat) (hn : n ≤ 600) (h : dSm n d) : okd (rdOf d) ∧ (rdOf d).put.size ≤ 600 := by
  cases d with
  | do_ e =>
    obtain ⟨h1, h2, h3⟩ := h
    exact ⟨⟨Nat.le_refl 1, show 1 ≤ 4 by decide, fun h => absurd rfl h, Nat.le_trans h1 hn, Nat.le_trans h2 hn⟩, show e.put.size ≤ 600 by omega⟩
  | close => exact ⟨⟨by decide, by decide, fun _ => ⟨rfl, rfl, rfl⟩, by decide, by decide⟩, by decide⟩
  | undo => exact ⟨⟨by decide, by decide, fun _ => ⟨rfl, rfl, rfl⟩, by decide, by decide⟩, by decide⟩
  | redo => exact ⟨⟨by decide, by decide, fun _ => ⟨rfl, rfl, rfl⟩, by decide, by decide⟩, by decide⟩
theorem okf_rdOf (s : ByteArray) (ds : List Dd) (n : Nat) (hn : n ≤ 600) (hs : s.size ≤ 600) (hl : ds.length ≤ 80) (h : ∀ d ∈ ds, dSm n d) : OKF s (ds.map rdOf) := by
  refine ⟨hs, by rw [List.length_map]; exact hl, fun d hd => ?_, fun d hd => ?_⟩
  · obtain ⟨x, hx, rfl⟩ := List.mem_map.1 hd
    exact (okd_rdOf x n hn (h x hx)).2
  · obtain ⟨x, hx, rfl⟩ := List.mem_map.1 hd
    exact (okd_rdOf x n hn (h x hx)).1
theorem set_same {w : World} {base : Nat} {e : TypeId} {size n : Nat} {xs : List Value} {i : Nat} {u : Value} {g c : Nat} (h : w.ownsRow base e size (.slice (some ⟨g, 0, none⟩) n c) n xs) (hu : xs[i]? = some u) : (w.setCell ⟨g, i, none⟩ u).ownsRow base e size (.slice (some ⟨g, 0, none⟩) n c) n xs := by
  have h2 := (h.stored i u).1
  obtain ⟨hi, rfl⟩ := List.getElem?_eq_some_iff.1 hu
  rwa [List.set_getElem_self] at h2
def SavPost (k n : Nat) (w : World) (e : Ending) (w' : World) : Prop :=
  ∃ v ds, e = .returned v ∧ w'.ownsRow w.heap.size 36 4 v ds.length (cellsOf ddc ds) ∧ ds.length ≤ k ∧ (∀ d ∈ ds, dSm n d) ∧ Below w.heap.size w w'
set_option maxRecDepth 100000 in
set_option maxHeartbeats 4000000 in
theorem savable_any (v : Value) (ts : List Trn) (k n : Nat) (w : World) (h : Turns w v ts) (hk : k ≤ 1000) (hn : n ≤ 10000) :
    Calls Try.prog 15 #[v, .int .i64 k, .int .i64 n] w (SavPost k n w) := by
  have HX := Lib.hid (deedsB_any v ts k n w h hk hn)
  clear h
  go_enter Try.func15, Try.ntmps15
  go_wp2_with fail
  refine HX.out.mono ?_
  rintro e w1 ⟨v1, ds, rfl, ho1, hl1, hd1, hb1⟩
  have HD := Lib.hid hd1
  obtain ⟨A1, c1, rfl, hc1, hc2⟩ := own_slice ho1
  have HB1 := Lib.hid hb1
  clear hd1 HX hb1
  unfold maxLen at hc2
  go_wp2_with fail
  go_loopw [8] (fun i wr => ∃ j : Nat, j ≤ ds.length ∧ i = .int .i64 j ∧ wr.ownsRow w.heap.size 36 4 (.slice A1 ds.length c1) ds.length (cellsOf ddc ds) ∧ Below w.heap.size w wr) (fun i _ => ds.length - (intOf i).toNat)
  case atStart => exact ⟨0, Nat.zero_le _, rfl, ho1, HB1.out⟩
  case round =>
    clear ho1
    obtain ⟨j, hj, rfl, hown, hb⟩ := hrel
    by_cases hlt : j < ds.length
    · obtain ⟨g, cap, hv, hg, hgl⟩ := hown.form (by omega)
      injection hv with e1 _ e3
      subst e1
      subst e3
      have hx : ∀ q u, (ddc ds[j])[q]? = some u → (cellsOf ddc ds)[j * 4 + q]? = some u := by
        intro q u hu
        have hq : q < 4 := (List.getElem?_eq_some_iff.1 hu).1
        rw [cellsOf_at ddc_len ds j hlt q hq]; exact hu
      have hx0 := hx 0 _ rfl
      have hx1 := hx 1 _ rfl
      have hx2 := hx 2 _ rfl
      have hx3 := hx 3 _ rfl
      have q0 : wr.cell? ⟨g, j * 4, none⟩ = some (.int .i64 (dk ds[j] : Int)) := by have := hown.cells (g := g) rfl _ _ hx0; rwa [add_head] at this
      have q1 : wr.cell? ⟨g, j * 4 + 1, none⟩ = some (.int .i64 ((de ds[j]).p : Int)) := by have := hown.cells (g := g) rfl _ _ hx1; rwa [add_head] at this
      have q2 : wr.cell? ⟨g, j * 4 + 2, none⟩ = some (.int .i64 ((de ds[j]).c : Int)) := by have := hown.cells (g := g) rfl _ _ hx2; rwa [add_head] at this
      have q3 : wr.cell? ⟨g, j * 4 + 3, none⟩ = some (.string (de ds[j]).put) := by have := hown.cells (g := g) rfl _ _ hx3; rwa [add_head] at this
      have f1 : wr.frozen? ⟨g, j * 4 + 1, none⟩ = false := hown.frozenAt _
      have f2 : wr.frozen? ⟨g, j * 4 + 2, none⟩ = false := hown.frozenAt _
      have f3 : wr.frozen? ⟨g, j * 4 + 3, none⟩ = false := hown.frozenAt _
      by_cases hd1 : dk ds[j] = 1
      · rw [hd1] at q0
        have q0' : wr.cell? ⟨g, j * 4, none⟩ = some (.int .i64 1) := q0
        have HOW := Lib.hid hown
        have HBW := Lib.hid hb
        clear q0 hx hx0 hx1 hx2 hx3 hd1 hown hb
        go_wp2_with fail
        go_roundw
        case rel => exact ⟨j + 1, by omega, by go_num, HOW.out, HBW.out⟩
        case measure => simp [intOf]; omega
      · have hz : (de ds[j]).p = 0 ∧ (de ds[j]).c = 0 ∧ (de ds[j]).put = ⟨#[]⟩ := by
          cases hdd : ds[j] with
          | do_ e => rw [hdd] at hd1; exact absurd rfl hd1
          | close => exact ⟨rfl, rfl, rfl⟩
          | undo => exact ⟨rfl, rfl, rfl⟩
          | redo => exact ⟨rfl, rfl, rfl⟩
        obtain ⟨z1, z2, z3⟩ := hz
        rw [z1] at q1 hx1
        rw [z2] at q2 hx2
        rw [z3] at q3 hx3
        have q1' : wr.cell? ⟨g, j * 4 + 1, none⟩ = some (.int .i64 0) := q1
        have q2' : wr.cell? ⟨g, j * 4 + 2, none⟩ = some (.int .i64 0) := q2
        have hkb : ((dk ds[j] : Int) == 1) = false := by rw [beq_eq_false_iff_ne]; omega
        have hkn : ((dk ds[j] : Int) != 1) = true := by rw [bne_iff_ne]; omega
        have h3 := set_same (set_same (set_same hown hx1) hx2) hx3
        have HOW := Lib.hid h3
        have HBW := Lib.hid (((hb.setCell (p := ⟨g, j * 4 + 1, none⟩) hg (.int .i64 0)).setCell (p := ⟨g, j * 4 + 2, none⟩) hg (.int .i64 0)).setCell (p := ⟨g, j * 4 + 3, none⟩) hg (.string ⟨#[]⟩))
        clear q1 q2 hx hx0 hx1 hx2 hx3 hd1 hown hb h3 z1 z2 z3
        generalize dk ds[j] = dkj at *
        go_wp2_with fail
        go_roundw
        case rel => exact ⟨j + 1, by omega, by go_num, HOW.out, HBW.out⟩
        case measure => simp [intOf]; omega
    · go_wp2_with fail
      go_ret
      exact ⟨_, ds, rfl, hown, hl1, HD.out, hb⟩
end Go.Proofs.Ytegobmlbldabbaa
