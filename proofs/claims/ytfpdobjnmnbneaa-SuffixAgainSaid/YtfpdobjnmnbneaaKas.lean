/-
  The walk of suffix.common: what each end has in common with the one ahead.
-/
import Derived.Test.YtfpdobjnmnbneaaKasP
import Derived.Test.YtfpdobjnmnbneaaSufW
import Derived.BigQuiet
namespace Go.Proofs.Ytfpdobjnmnbneaa
open Go.RowKit
set_option linter.unusedVariables false
set_option linter.unusedSimpArgs false

def CommonPost (S : List UInt8) (n : Nat) (o : Nat → Nat) (w : World) (e : Ending) (w' : World) : Prop := ∃ h : Nat, e = .returned (.slice (some ⟨h, 0, none⟩) n n) ∧ w.heap.size ≤ h ∧ w'.rowIs h 3 n (fun k => .int .i64 (cmn S o k : Int)) ∧ Below w.heap.size w w'
theorem mk2a (w : World) (n : Nat) (z : Value) (t : TypeId) (a : Obj) : ((w.alloc (.cells (madeCells #[z] n) t)).alloc a).drew.rowIs w.heap.size t n (fun _ => z) := by
  have h := (World.rowIs_made w z n t).alloc a
  simpa using h.drew
theorem mk2b (w : World) (n : Nat) (z : Value) (t : TypeId) (a : Obj) : ((w.alloc a).alloc (.cells (madeCells #[z] n) t)).drew.rowIs (w.heap.size + 1) t n (fun _ => z) := by
  have h := World.rowIs_made (w.alloc a) z n t
  simpa using h.drew
theorem be2 (w : World) (a b : Obj) : Below w.heap.size w ((w.alloc a).alloc b).drew := by
  have e1 : w.heap.size ≤ (w.alloc a).heap.size := by simp
  exact (((Below.refl _ _).alloc (Nat.le_refl _) a).alloc e1 b).drew
set_option maxRecDepth 100000 in
set_option maxHeartbeats 8000000 in
theorem common_any (s : ByteArray) (hs : s.size ≤ 1000) (g : Nat) (o p : Nat → Nat) (HE : EndsUp s.data.toList s.size o p) (w : World) (RG : w.rowIs g 3 s.size (fun k => .int .i64 (o k : Int))) :
    Calls Try.prog 35 #[.string s, .slice (some ⟨g, 0, none⟩) s.size s.size] w (CommonPost s.data.toList s.size o w) := by
  have hmk : ∀ W : World, (Instr.makeSlice 22 (.int .i64 (s.size : Int)) (.int .i64 (s.size : Int))).run Try.prog W = .ok (.slice (some ⟨W.heap.size, 0, none⟩) s.size s.size) (W.alloc (.cells (madeCells #[.int .i64 0] s.size) 3)) :=
    fun W => run_make_row' (P := Try.prog) 22 3 (.int .i64 0) 8 Try.underlying22 int_info rfl .i64 .i64 s.size (by omega) (by omega) W
  have HEE := Lib.hid HE
  clear HE
  have hg := RG.lt
  go_enter Try.func35, Try.ntmps35
  go_wp2_with fail
  go_cut [6, 7] (fun s6 s7 wc => ∃ rk ob : Nat, s6 = .slice (some ⟨rk, 0, none⟩) s.size s.size ∧ s7 = .slice (some ⟨ob, 0, none⟩) s.size s.size ∧ wc.rowIs rk 3 s.size (fun _ => .int .i64 0) ∧ wc.rowIs ob 3 s.size (fun _ => .int .i64 0) ∧ w.heap.size ≤ rk ∧ w.heap.size ≤ ob ∧ rk ≠ ob ∧ Below w.heap.size w wc)
  case first =>
    go_region
    all_goals go_wp2_with fail
    all_goals clear hmk
    all_goals go_meet
    all_goals first
      | exact ⟨_, _, rfl, rfl, mk2a _ _ _ _ _, mk2b _ _ _ _ _, by omega, by omega, by omega, be2 _ _ _⟩
      | exact ⟨_, _, rfl, rfl, mk2b _ _ _ _ _, mk2a _ _ _ _ _, by omega, by omega, by omega, be2 _ _ _⟩
  case rest =>
    obtain ⟨rk, ob, rfl, rfl, RK, RO, l1, l2, d1, HB⟩ := hcut
    clear hmk
    go_wp2_with fail
    go_loopw [8, 9, 21] (fun _ _ vi wr => ∃ k : Nat, k ≤ s.size ∧ vi = .int .i64 (k : Int) ∧ wr.rowIs rk 3 s.size (fun j => .int .i64 ((if p j < k then p j else 0 : Nat) : Int)) ∧ wr.rowIs ob 3 s.size (fun j => .int .i64 0) ∧ Below w.heap.size w wr) (fun _ _ vi _ => s.size - (intOf vi).toNat)
    case atStart => exact ⟨0, Nat.zero_le _, rfl, RK.congr (fun j hj => by simp), RO, HB⟩
    case round =>
      clear RK RO HB
      obtain ⟨k, hk, rfl, RK, RO, HB⟩ := hrel
      by_cases hlt : k < s.size
      · have i0 : (0 : Int) ≤ (k : Int) := by omega
        have i1 : (k : Int) < (s.size : Int) := by omega
        have RG' := rowIs_below RG HB hg
        have a1 := RG'.cell hlt
        obtain ⟨o1, o2, o3, o4⟩ := HEE.out.1 k hlt
        obtain ⟨ok, hok⟩ : ∃ ok, o k = ok := ⟨_, rfl⟩
        rw [hok] at a1 o1 o3
        have a2 := RK.cell o1
        have a3 := RK.frozen ok
        obtain ⟨vv, hvv⟩ : ∃ vv : Nat, (if p ok < k then p ok else 0 : Nat) = vv := ⟨_, rfl⟩
        rw [hvv] at a2
        have HOK := Lib.hid hok
        have O3 := Lib.hid o3
        have i2 : (0 : Int) ≤ (ok : Int) := by omega
        have i3 : (ok : Int) < (s.size : Int) := by omega
        clear hvv hok o2 o3 o4
        go_wp2_with fail
        refine ⟨⟨k + 1, by omega, by go_num, (RK.set ok _).congr (fun j hj => ?_), RO.setOther (a := ⟨rk, ok, none⟩) (fun e => d1 e.symm) _, HB.setCell (p := ⟨rk, ok, none⟩) l1 _⟩, by simp [intOf]; omega⟩
        by_cases e : j = ok
        · subst e
          rw [if_pos rfl, O3.out, if_pos (by omega)]
        · have : p j ≠ k := fun e2 => e (by rw [← HOK.out, ← e2, (HEE.out.1 j hj).2.2.2])
          rw [if_neg e]
          by_cases q : p j < k
          · rw [if_pos q, if_pos (by omega)]
          · rw [if_neg q, if_neg (by omega)]
      · obtain rfl : k = s.size := by omega
        have RK2 := RK.congr (fun j hj => (by rw [if_pos (HEE.out.1 j hj).2.1] : Value.int .i64 ((if p j < s.size then p j else 0 : Nat) : Int) = .int .i64 (p j : Int)))
        clear RK
        go_wp2_with fail
        go_loopw [10, 11, 12, 32] (fun vl _ _ vi W => ∃ i L : Nat, i ≤ s.size ∧ vi = .int .i64 (i : Int) ∧ vl = .int .i64 (L : Int) ∧ L ≤ s.size ∧ (i < s.size → p i ≠ 0 → L ≤ cmn s.data.toList o (p i)) ∧ W.rowIs rk 3 s.size (fun j => .int .i64 (p j : Int)) ∧ W.rowIs ob 3 s.size (fun j => .int .i64 ((if o j < i then cmn s.data.toList o j else 0 : Nat) : Int)) ∧ Below w.heap.size w W) (fun _ _ _ vi _ => s.size - (intOf vi).toNat)
        case atStart => exact ⟨0, 0, Nat.zero_le _, rfl, rfl, Nat.zero_le _, fun _ _ => Nat.zero_le _, RK2, RO.congr (fun j hj => by simp), HB⟩
        case round =>
          clear RK2 RO HB
          obtain ⟨i, L, hi, rfl, rfl, hL, hLc, RK, RO, HB⟩ := hrel
          by_cases hlt : i < s.size
          · have i0 : (0 : Int) ≤ (i : Int) := by omega
            have i1 : (i : Int) < (s.size : Int) := by omega
            have a1 := RK.cell hlt
            obtain ⟨p1, p2, p3, p4⟩ := HEE.out.1 i hlt
            by_cases hz : p i = 0
            · have a2 : wr.cell? ⟨rk, i, none⟩ = some (.int .i64 0) := by rw [a1, hz]; rfl
              have HZ := Lib.hid hz
              clear a1 hz p1 p2 p3 hLc
              have P4 := Lib.hid p4
              clear p4
              go_wp2_with fail
              refine ⟨⟨i + 1, 0, by omega, by go_num, rfl, Nat.zero_le _, fun _ _ => Nat.zero_le _, RK, RO.congr (fun j hj => ?_), HB⟩, by simp [intOf]; omega⟩
              by_cases q : o j < i
              · rw [if_pos q, if_pos (by omega)]
              · rw [if_neg q]
                by_cases q2 : o j < i + 1
                · have : o j = i := by omega
                  have e := (HEE.out.1 j hj).2.2.1
                  rw [this, HZ.out] at e
                  rw [if_pos q2, ← e]; rfl
                · rw [if_neg q2]
            · have hLc' := hLc hlt hz
              obtain ⟨P, hP⟩ : ∃ P, p i = P := ⟨_, rfl⟩
              rw [hP] at a1 p2 p4 hz hLc'
              obtain ⟨pm, hpm⟩ : ∃ pm, P = pm + 1 := ⟨P - 1, by omega⟩
              obtain ⟨k1, k2, k3, k4⟩ := HEE.out.1 pm (by omega)
              have a3 := (rowIs_below RG HB hg).cell (show pm < s.size by omega)
              obtain ⟨ok, hok⟩ : ∃ ok, o pm = ok := ⟨_, rfl⟩
              rw [hok] at a3 k1
              obtain ⟨C, hC⟩ : ∃ C, cmn s.data.toList o P = C := ⟨_, rfl⟩
              rw [hC] at hLc'
              have HC : Hid (lcp (s.data.toList.drop i) (s.data.toList.drop ok) = C) := Lib.hid (by rw [← hC, cmn_pos _ _ _ (by omega), p4, hpm, Nat.add_sub_cancel, hok])
              have HCC := Lib.hid hC
              have HP := Lib.hid hP
              have hCs : C ≤ s.size - i := by have := (lcp_le (s.data.toList.drop i) (s.data.toList.drop ok)).1; rw [HC.out] at this; simpa using this
              have w1 : IntKind.i64.wrap ((P : Int) - 1) = (pm : Int) := by rw [IntWalk.i64_in _ (by omega)]; omega
              have j0 : (0 : Int) ≤ (pm : Int) := by omega
              have j1 : (pm : Int) < (s.size : Int) := by omega
              have hPz : ((P : Int) == 0) = false := beq_eq_false_iff_ne.2 (by omega)
              have a4 := RO.cell (show P < s.size by omega)
              have a5 := RO.frozen P
              have HPM := Lib.hid hpm
              have P4 := Lib.hid p4
              clear p1 p3 p4 hLc hz hP hC hok k2 k3 k4 hpm
              go_wp2_with fail
              clear w1
              have A4 := Lib.hid a4
              clear a4
              go_loopw [10] (fun vl W => ∃ l q : Nat, l ≤ C ∧ vl = .int .i64 (l : Int) ∧ W = wr.drewN q) (fun vl _ => C - (intOf vl).toNat)
              case atStart => exact ⟨L, 0, hLc', rfl, rfl⟩
              case round =>
                obtain ⟨l, q, hl, rfl, rfl⟩ := hrel
                have more := lcp_more (s.data.toList.drop i) (s.data.toList.drop ok) l (by rw [HC.out]; exact hl)
                rw [HC.out] at more
                by_cases hlC : l < C
                · obtain ⟨m1, m2, m3⟩ := more.1 hlC
                  have hA : i + l < s.size := by rw [List.length_drop] at m1; simp at m1; omega
                  have hB : ok + l < s.size := by rw [List.length_drop] at m2; simp at m2; omega
                  rw [List.getElem_drop, List.getElem_drop] at m3
                  have gE : ((s[i + l].toNat : Int) == (s[ok + l].toNat : Int)) = true := beq_iff_eq.2 (by
                    have : s[i + l] = s[ok + l] := m3
                    rw [this])
                  have gA : (i : Int) + (l : Int) < (s.size : Int) := by omega
                  have gB : (ok : Int) + (l : Int) < (s.size : Int) := by omega
                  have g0 : (0 : Int) ≤ (i : Int) + (l : Int) := by omega
                  have g1 : (0 : Int) ≤ (ok : Int) + (l : Int) := by omega
                  clear more m1 m2 m3
                  go_wp2_with fail
                  go_quiet (fail)
                  go_wp2_with fail
                  exact ⟨⟨l + 1, q + nq, by omega, by go_num, rfl⟩, by simp [intOf]; omega⟩
                · obtain rfl : l = C := by omega
                  have a4 := A4.out
                  obtain ⟨vo, hvo⟩ : ∃ vo : Nat, (if o P < i then cmn s.data.toList o P else 0 : Nat) = vo := ⟨_, rfl⟩
                  rw [hvo] at a4
                  clear hvo A4
                  by_cases hA : i + l < s.size
                  · have gA : (i : Int) + (l : Int) < (s.size : Int) := by omega
                    have g0 : (0 : Int) ≤ (i : Int) + (l : Int) := by omega
                    by_cases hB : ok + l < s.size
                    · have gB : (ok : Int) + (l : Int) < (s.size : Int) := by omega
                      have g1 : (0 : Int) ≤ (ok : Int) + (l : Int) := by omega
                      have gE : ((s[i + l].toNat : Int) == (s[ok + l].toNat : Int)) = false := beq_eq_false_iff_ne.2 (fun e => hlC (more.2 ⟨by simp; omega, by simp; omega, by
                        rw [List.getElem_drop, List.getElem_drop]
                        exact UInt8.toNat.inj (by have e' : s[i + l].toNat = s[ok + l].toNat := by omega
                                                  exact e')⟩))
                      clear more
                      go_wp2_with fail
                      go_quiet (fail)
                      go_wp2_with fail
                      refine ⟨⟨i + 1, l - 1, by omega, by go_num, by congr 1; omega, by omega, fun h1 h2 => ?_, RK.setOther (a := ⟨ob, P, none⟩) d1 _, (RO.set P _).congr (fun j hj => ?_), below_drewN (HB.setCell (p := ⟨ob, P, none⟩) l2 _) _⟩, by simp [intOf]; omega⟩
                      · have h3 := kas_step (n := s.size) (by simp) HEE.out i (by omega) (by rw [HP.out, HPM.out]; omega)
                        rw [HP.out, HCC.out] at h3
                        rcases h3 with ⟨_, h3⟩ | h3
                        · exact h3
                        · have : l - 1 = 0 := by omega
                          rw [this]; exact Nat.zero_le _
                      · by_cases e : j = P
                        · subst e
                          rw [if_pos rfl, P4.out, if_pos (by omega), HCC.out]
                        · have : o j ≠ i := fun e2 => e (by rw [← HP.out, ← e2, (HEE.out.1 j hj).2.2.1])
                          rw [if_neg e]
                          by_cases q : o j < i
                          · rw [if_pos q, if_pos (by omega)]
                          · rw [if_neg q, if_neg (by omega)]
                    · have gB : decide ((ok : Int) + (l : Int) < (s.size : Int)) = false := decide_eq_false (by omega)
                      clear more
                      go_wp2_with fail
                      go_quiet (fail)
                      go_wp2_with fail
                      refine ⟨⟨i + 1, l - 1, by omega, by go_num, by congr 1; omega, by omega, fun h1 h2 => ?_, RK.setOther (a := ⟨ob, P, none⟩) d1 _, (RO.set P _).congr (fun j hj => ?_), below_drewN (HB.setCell (p := ⟨ob, P, none⟩) l2 _) _⟩, by simp [intOf]; omega⟩
                      · have h3 := kas_step (n := s.size) (by simp) HEE.out i (by omega) (by rw [HP.out, HPM.out]; omega)
                        rw [HP.out, HCC.out] at h3
                        rcases h3 with ⟨_, h3⟩ | h3
                        · exact h3
                        · have : l - 1 = 0 := by omega
                          rw [this]; exact Nat.zero_le _
                      · by_cases e : j = P
                        · subst e
                          rw [if_pos rfl, P4.out, if_pos (by omega), HCC.out]
                        · have : o j ≠ i := fun e2 => e (by rw [← HP.out, ← e2, (HEE.out.1 j hj).2.2.1])
                          rw [if_neg e]
                          by_cases q : o j < i
                          · rw [if_pos q, if_pos (by omega)]
                          · rw [if_neg q, if_neg (by omega)]
                  · have gA : decide ((i : Int) + (l : Int) < (s.size : Int)) = false := decide_eq_false (by omega)
                    clear more
                    go_wp2_with fail
                    go_quiet (fail)
                    go_wp2_with fail
                    refine ⟨⟨i + 1, l - 1, by omega, by go_num, by congr 1; omega, by omega, fun h1 h2 => ?_, RK.setOther (a := ⟨ob, P, none⟩) d1 _, (RO.set P _).congr (fun j hj => ?_), below_drewN (HB.setCell (p := ⟨ob, P, none⟩) l2 _) _⟩, by simp [intOf]; omega⟩
                    · have h3 := kas_step (n := s.size) (by simp) HEE.out i (by omega) (by rw [HP.out, HPM.out]; omega)
                      rw [HP.out, HCC.out] at h3
                      rcases h3 with ⟨_, h3⟩ | h3
                      · exact h3
                      · have : l - 1 = 0 := by omega
                        rw [this]; exact Nat.zero_le _
                    · by_cases e : j = P
                      · subst e
                        rw [if_pos rfl, P4.out, if_pos (by omega), HCC.out]
                      · have : o j ≠ i := fun e2 => e (by rw [← HP.out, ← e2, (HEE.out.1 j hj).2.2.1])
                        rw [if_neg e]
                        by_cases q : o j < i
                        · rw [if_pos q, if_pos (by omega)]
                        · rw [if_neg q, if_neg (by omega)]
          · obtain rfl : i = s.size := by omega
            --CUT2
            go_wp2_with fail
            go_ret
            exact ⟨ob, rfl, l2, RO.congr (fun j hj => by rw [if_pos (HEE.out.1 j hj).1]), HB⟩
end Go.Proofs.Ytfpdobjnmnbneaa
