/-
  The walks of log.fits and fault.
-/
import Derived.Test.YtegobmlbldabbaaLogW
namespace Go.Proofs.Ytegobmlbldabbaa
open Go.RowKit
set_option linter.unusedVariables false

structure Rd where
  k : Nat
  p : Nat
  c : Nat
  put : ByteArray
def rdc (d : Rd) : List Value := [.int .i64 (d.k : Int), .int .i64 (d.p : Int), .int .i64 (d.c : Int), .string d.put]
theorem rdc_len (d : Rd) : (rdc d).length = 4 := rfl
theorem rdc_one (d : Rd) : ∀ u ∈ rdc d, u.oneCell' = true := by intro u hu; simp [rdc] at hu; rcases hu with rfl | rfl | rfl | rfl <;> rfl
theorem rd_at {w : World} {B : Nat} {A : Option Addr} {ds : List Rd} (h : Reads w B 4 A ds.length (cellsOf rdc ds)) {i : Nat} (hi : i < ds.length) (hl : ds.length ≤ 1000000000) :
    ∃ b o, A = some ⟨b, o, none⟩ ∧ b < B ∧ w.cell? ⟨b, o + i * 4, none⟩ = some (.int .i64 (ds[i].k : Int)) ∧ w.cell? ⟨b, o + i * 4 + 1, none⟩ = some (.int .i64 (ds[i].p : Int)) ∧
      w.cell? ⟨b, o + i * 4 + 2, none⟩ = some (.int .i64 (ds[i].c : Int)) ∧ w.cell? ⟨b, o + i * 4 + 3, none⟩ = some (.string ds[i].put) := by
  obtain ⟨b, o, rfl, hb, hc⟩ := h.plain (by omega) (by omega)
  have hx : ∀ j u, (rdc ds[i])[j]? = some u → (cellsOf rdc ds)[i * 4 + j]? = some u := by
    intro j u hu
    have hj : j < 4 := (List.getElem?_eq_some_iff.1 hu).1
    rw [cellsOf_at rdc_len ds i hi j hj]; exact hu
  have h0 := hc _ _ (hx 0 _ rfl)
  have h1 := hc _ _ (hx 1 _ rfl)
  have h2 := hc _ _ (hx 2 _ rfl)
  have h3 := hc _ _ (hx 3 _ rfl)
  exact ⟨b, o, rfl, hb, h0, by rw [Nat.add_assoc]; exact h1, by rw [Nat.add_assoc]; exact h2, by rw [Nat.add_assoc]; exact h3⟩
def okd (d : Rd) : Prop := 1 ≤ d.k ∧ d.k ≤ 4 ∧ (d.k ≠ 1 → d.p = 0 ∧ d.c = 0 ∧ d.put = ⟨#[]⟩) ∧ d.p ≤ 600 ∧ d.c ≤ 600
def OKF (s : ByteArray) (l : List Rd) : Prop := s.size ≤ 600 ∧ l.length ≤ 80 ∧ (∀ d ∈ l, d.put.size ≤ 600) ∧ ∀ d ∈ l, okd d
def FaultPost (s : ByteArray) (l : List Rd) (w : World) (e : Ending) (w' : World) : Prop := ∃ c : Nat, e = .returned (.int .i64 (c : Int)) ∧ c ≤ 7 ∧ (c = 0 ↔ OKF s l) ∧ Below w.heap.size w w'
set_option maxRecDepth 100000 in
theorem fits_any (n : Nat) (w : World) (hn : n ≤ 1000000000) : Calls Try.prog 69 #[.int .i64 n] w fun e w' => e = .returned (.bool (decide (n ≤ 600))) ∧ w' = w := by
  by_cases h : n ≤ 600
  · have hd : decide (n ≤ 600) = true := by simpa using h
    rw [hd]
    go_enter Try.func69, Try.ntmps69
    go_wp2
    go_ret
    exact ⟨by congr; simp; omega, rfl⟩
  · have hd : decide (n ≤ 600) = false := by simpa using h
    rw [hd]
    go_enter Try.func69, Try.ntmps69
    go_wp2
    go_ret
    exact ⟨by congr; simp; omega, rfl⟩
theorem empty_of (s : ByteArray) (h : s.toList = []) : s = ⟨#[]⟩ := by
  rw [ByteArray.toList_eq] at h; exact bytes_ext h
set_option maxRecDepth 100000 in
set_option maxHeartbeats 4000000 in
theorem fault_any (s : ByteArray) (A : Option Addr) (cap : Nat) (l : List Rd) (w : World) (hs : s.size ≤ 140737488351232) (hr : Reads w w.heap.size 4 A l.length (cellsOf rdc l)) (hl : l.length ≤ 1000000) (hc1 : l.length ≤ cap) (hc2 : cap ≤ maxLen)
    (hbd : ∀ d ∈ l, d.k ≤ 1000000 ∧ d.p ≤ 1000000 ∧ d.c ≤ 1000000 ∧ d.put.size ≤ 1000000) :
    Calls Try.prog 43 #[.string s, .slice A l.length cap] w (FaultPost s l w) := by
  unfold maxLen at hc2
  have HR := Lib.hid hr
  have HBD := Lib.hid hbd
  clear hr hbd
  by_cases hz : s.size ≤ 600 ∧ l.length ≤ 80
  · obtain ⟨hz1, hz2⟩ := hz
    go_enter Try.func43, Try.ntmps43
    go_wp2_with fail
    go_loopw [19] (fun i wr => ∃ k : Nat, k ≤ l.length ∧ i = .int .i64 k ∧ (∀ d ∈ l.take k, d.put.size ≤ 600) ∧ Below w.heap.size w wr) (fun i _ => l.length - (intOf i).toNat)
    case atStart => exact ⟨0, Nat.zero_le _, rfl, by simp, Below.refl _ _⟩
    case round =>
      obtain ⟨k, hk, rfl, hpre, hb⟩ := hrel
      by_cases hlt : k < l.length
      · obtain ⟨b, o, rfl, hbb, x0, x1, x2, x3⟩ := rd_at (HR.out.below hb) hlt (by omega)
        have hbw := Nat.lt_of_lt_of_le hbb hb.size
        have h9 := HBD.out l[k] (List.getElem_mem hlt)
        have HTK := Lib.hid (List.take_succ_eq_append_getElem hlt)
        have HME := Lib.hid (List.getElem_mem hlt)
        generalize hd : l[k] = d at *
        have HB2 := Lib.hid (hb.alloc hb.size (.cells #[.int .i64 (d.k : Int), .int .i64 (d.p : Int), .int .i64 (d.c : Int), .string d.put] 36))
        have HPRE := Lib.hid hpre
        clear hb hpre hd
        by_cases hp6 : d.put.size ≤ 600
        · go_wp2_with fail
          go_roundw
          case rel =>
            refine ⟨k + 1, by omega, by go_num, ?_, HB2.out⟩
            intro y hy
            rw [HTK.out] at hy
            rcases List.mem_append.1 hy with hy | hy
            · exact HPRE.out y hy
            · simp at hy; subst hy; exact hp6
          case measure => simp [intOf]; omega
        · go_wp2_with fail
          go_ret
          exact ⟨1, rfl, by omega, ⟨fun h => by omega, fun h => absurd (h.2.2.1 d HME.out) hp6⟩, HB2.out⟩
      · obtain rfl : k = l.length := by omega
        have hall : ∀ d ∈ l, d.put.size ≤ 600 := by rw [List.take_length] at hpre; exact hpre
        have HALL := Lib.hid hall
        have HB := Lib.hid hb
        clear hpre hall hb
        go_wp2_with fail
        go_loopw [31] (fun i wr => ∃ k : Nat, k ≤ l.length ∧ i = .int .i64 k ∧ (∀ d ∈ l.take k, okd d) ∧ Below w.heap.size w wr) (fun i _ => l.length - (intOf i).toNat)
        case atStart => exact ⟨0, Nat.zero_le _, rfl, by simp, HB.out⟩
        case round =>
          clear HB
          obtain ⟨k, hk, rfl, hpre, hb⟩ := hrel
          by_cases hlt : k < l.length
          · obtain ⟨b, o, rfl, hbb, x0, x1, x2, x3⟩ := rd_at (HR.out.below hb) hlt (by omega)
            have hbw := Nat.lt_of_lt_of_le hbb hb.size
            obtain ⟨b1, b2, b3, b4⟩ := HBD.out l[k] (List.getElem_mem hlt)
            have HTK := Lib.hid (List.take_succ_eq_append_getElem hlt)
            have HME := Lib.hid (List.getElem_mem hlt)
            generalize hd : l[k] = d at *
            have HB2 := Lib.hid (hb.alloc hb.size (.cells #[.int .i64 (d.k : Int), .int .i64 (d.p : Int), .int .i64 (d.c : Int), .string d.put] 36))
            have HBR := Lib.hid hb
            have HPRE := Lib.hid hpre
            have hNot : ∀ c : Nat, c ≠ 0 → ¬ okd d → (c = 0 ↔ OKF s l) := fun c hc hn => ⟨fun h => absurd h hc, fun h => absurd (h.2.2.2 d HME.out) hn⟩
            have HNOT := Lib.hid hNot
            have HFP := Lib.hid (fun W => fits_any d.p W (by omega))
            have HFC := Lib.hid (fun W => fits_any d.c W (by omega))
            clear hb hpre hd hNot
            obtain ⟨dk, dp, dc, dput⟩ := d
            simp only at x0 x1 x2 x3 b1 b2 b3 b4 HFP HFC
            by_cases hk1 : 1 ≤ dk ∧ dk ≤ 4
            · obtain rfl | hk234 : dk = 1 ∨ (dk = 2 ∨ dk = 3 ∨ dk = 4) := by omega
              · have x0' : wr.cell? ⟨b, o + k * 4, none⟩ = some (.int .i64 1) := x0
                clear x0 hk1
                by_cases hp : dp ≤ 600
                · by_cases hc : dc ≤ 600
                  · have hpd : decide (dp ≤ 600) = true := by simpa using hp
                    have hcd : decide (dc ≤ 600) = true := by simpa using hc
                    have HOKD : Hid (okd ⟨1, dp, dc, dput⟩) := Lib.hid ⟨Nat.le_refl 1, show 1 ≤ 4 by decide, fun h => absurd rfl h, hp, hc⟩
                    go_wp2_with (go_at_call 69; first | (refine (HFP.out _).mono ?_; rintro e w' ⟨rfl, rfl⟩; rw [hpd]) | (refine (HFC.out _).mono ?_; rintro e w' ⟨rfl, rfl⟩; rw [hcd]))
                    go_roundw
                    case rel =>
                      refine ⟨k + 1, by omega, by go_num, ?_, HB2.out⟩
                      intro y hy
                      rw [HTK.out] at hy
                      rcases List.mem_append.1 hy with hy | hy
                      · exact HPRE.out y hy
                      · simp at hy; subst hy; exact HOKD.out
                    case measure => simp [intOf]; omega
                  · have hpd : decide (dp ≤ 600) = true := by simpa using hp
                    have hcd : decide (dc ≤ 600) = false := by simpa using hc
                    have HNO := Lib.hid (HNOT.out 2 (by decide) (fun h => hc h.2.2.2.2))
                    go_wp2_with (go_at_call 69; first | (refine (HFP.out _).mono ?_; rintro e w' ⟨rfl, rfl⟩; rw [hpd]) | (refine (HFC.out _).mono ?_; rintro e w' ⟨rfl, rfl⟩; rw [hcd]))
                    go_ret
                    exact ⟨2, rfl, by omega, HNO.out, HB2.out⟩
                · have hpd : decide (dp ≤ 600) = false := by simpa using hp
                  have HNO := Lib.hid (HNOT.out 2 (by decide) (fun h => hp h.2.2.2.1))
                  go_wp2_with (go_at_call 69; refine (HFP.out _).mono ?_; rintro e w' ⟨rfl, rfl⟩; rw [hpd])
                  go_ret
                  exact ⟨2, rfl, by omega, HNO.out, HB2.out⟩
              · by_cases hform : dp = 0 ∧ dc = 0 ∧ dput = ⟨#[]⟩
                · obtain ⟨rfl, rfl, rfl⟩ := hform
                  have x1' : wr.cell? ⟨b, o + k * 4 + 1, none⟩ = some (.int .i64 0) := x1
                  have x2' : wr.cell? ⟨b, o + k * 4 + 2, none⟩ = some (.int .i64 0) := x2
                  have hpd : decide ((0 : Nat) ≤ 600) = true := rfl
                  have HF0 : Hid (∀ W, Calls Try.prog 69 #[.int .i64 0] W fun e w' => e = .returned (.bool true) ∧ w' = W) := Lib.hid (fun W => HFP.out W)
                  clear x1 x2
                  obtain rfl | rfl | rfl := hk234
                  · have x0' : wr.cell? ⟨b, o + k * 4, none⟩ = some (.int .i64 2) := x0
                    have HOKD : Hid (okd ⟨2, 0, 0, ⟨#[]⟩⟩) := Lib.hid ⟨by decide, by decide, fun _ => ⟨rfl, rfl, rfl⟩, by decide, by decide⟩
                    clear x0 hk1
                    go_wp2_with (go_at_call 69; refine (HF0.out _).mono ?_; rintro e w' ⟨rfl, rfl⟩)
                    go_roundw
                    case rel =>
                      refine ⟨k + 1, by omega, by go_num, ?_, HB2.out⟩
                      intro y hy
                      rw [HTK.out] at hy
                      rcases List.mem_append.1 hy with hy | hy
                      · exact HPRE.out y hy
                      · simp at hy; subst hy; exact HOKD.out
                    case measure => simp [intOf]; omega
                  · have x0' : wr.cell? ⟨b, o + k * 4, none⟩ = some (.int .i64 3) := x0
                    have HOKD : Hid (okd ⟨3, 0, 0, ⟨#[]⟩⟩) := Lib.hid ⟨by decide, by decide, fun _ => ⟨rfl, rfl, rfl⟩, by decide, by decide⟩
                    clear x0 hk1
                    go_wp2_with (go_at_call 69; refine (HF0.out _).mono ?_; rintro e w' ⟨rfl, rfl⟩)
                    go_roundw
                    case rel =>
                      refine ⟨k + 1, by omega, by go_num, ?_, HB2.out⟩
                      intro y hy
                      rw [HTK.out] at hy
                      rcases List.mem_append.1 hy with hy | hy
                      · exact HPRE.out y hy
                      · simp at hy; subst hy; exact HOKD.out
                    case measure => simp [intOf]; omega
                  · have x0' : wr.cell? ⟨b, o + k * 4, none⟩ = some (.int .i64 4) := x0
                    have HOKD : Hid (okd ⟨4, 0, 0, ⟨#[]⟩⟩) := Lib.hid ⟨by decide, by decide, fun _ => ⟨rfl, rfl, rfl⟩, by decide, by decide⟩
                    clear x0 hk1
                    go_wp2_with (go_at_call 69; refine (HF0.out _).mono ?_; rintro e w' ⟨rfl, rfl⟩)
                    go_roundw
                    case rel =>
                      refine ⟨k + 1, by omega, by go_num, ?_, HB2.out⟩
                      intro y hy
                      rw [HTK.out] at hy
                      rcases List.mem_append.1 hy with hy | hy
                      · exact HPRE.out y hy
                      · simp at hy; subst hy; exact HOKD.out
                    case measure => simp [intOf]; omega
                · have HNO := Lib.hid (HNOT.out 4 (by decide) (fun h => hform (h.2.2.1 (by simp only; omega))))
                  obtain rfl | rfl | rfl := hk234
                  · have x0' : wr.cell? ⟨b, o + k * 4, none⟩ = some (.int .i64 2) := x0
                    clear x0 hk1
                    go_wp2_with fail
                    all_goals first
                      | (exfalso; exact hform ⟨by assumption, by assumption, empty_of _ (by assumption)⟩)
                      | skip
                    all_goals (go_ret; exact ⟨4, rfl, by omega, HNO.out, HBR.out.alloc HBR.out.size _⟩)
                  · have x0' : wr.cell? ⟨b, o + k * 4, none⟩ = some (.int .i64 3) := x0
                    clear x0 hk1
                    go_wp2_with fail
                    all_goals first
                      | (exfalso; exact hform ⟨by assumption, by assumption, empty_of _ (by assumption)⟩)
                      | skip
                    all_goals (go_ret; exact ⟨4, rfl, by omega, HNO.out, HBR.out.alloc HBR.out.size _⟩)
                  · have x0' : wr.cell? ⟨b, o + k * 4, none⟩ = some (.int .i64 4) := x0
                    clear x0 hk1
                    go_wp2_with fail
                    all_goals first
                      | (exfalso; exact hform ⟨by assumption, by assumption, empty_of _ (by assumption)⟩)
                      | skip
                    all_goals (go_ret; exact ⟨4, rfl, by omega, HNO.out, HBR.out.alloc HBR.out.size _⟩)
            · have HNO := Lib.hid (HNOT.out 3 (by decide) (fun h => hk1 ⟨h.1, h.2.1⟩))
              by_cases hka0 : dk < 1
              · have hka : decide ((dk : Int) < 1) = true := by rw [decide_eq_true_eq]; omega
                go_wp2_with fail
                go_ret
                exact ⟨3, rfl, by omega, HNO.out, HB2.out⟩
              · have hka : decide ((dk : Int) < 1) = false := by rw [decide_eq_false_iff_not]; omega
                have hkb : decide ((4 : Int) < (dk : Int)) = true := by rw [decide_eq_true_eq]; omega
                go_wp2_with fail
                go_ret
                exact ⟨3, rfl, by omega, HNO.out, HB2.out⟩
          · obtain rfl : k = l.length := by omega
            rw [List.take_length] at hpre
            have HALL2 := Lib.hid hpre
            have HB := Lib.hid hb
            clear hpre hb
            go_wp2_with fail
            go_ret
            exact ⟨0, rfl, by omega, ⟨fun _ => ⟨hz1, hz2, HALL.out, HALL2.out⟩, fun _ => rfl⟩, HB.out⟩
  · have HNO : ¬ OKF s l := fun h => hz ⟨h.1, h.2.1⟩
    have HN := Lib.hid HNO
    clear HNO
    by_cases hs6 : s.size ≤ 600
    · have hl8 : ¬ l.length ≤ 80 := fun h => hz ⟨hs6, h⟩
      go_enter Try.func43, Try.ntmps43
      go_wp2_with fail
      go_ret
      exact ⟨1, rfl, by omega, ⟨fun h => by omega, fun h => absurd h HN.out⟩, Below.refl _ _⟩
    · go_enter Try.func43, Try.ntmps43
      go_wp2_with fail
      go_ret
      exact ⟨1, rfl, by omega, ⟨fun h => by omega, fun h => absurd h HN.out⟩, Below.refl _ _⟩
end Go.Proofs.Ytegobmlbldabbaa
