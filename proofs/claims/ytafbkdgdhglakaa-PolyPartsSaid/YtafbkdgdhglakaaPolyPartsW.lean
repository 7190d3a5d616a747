/-
  The walk of the law PolyParts: whatever the three texts, it returns true and changes nothing that was there. Condition: each text has at most 2^47 bytes, which the form itself says of every text that came in.
-/
import Derived.Test.YtafbkdgdhglakaaPolyJoin
import Derived.Test.YtafbkdgdhglakaaReg
import Derived.Deep.RegionHeld3
import Derived.Deep.DeepCutAuto
namespace Go.Proofs.Ytafbkdgdhglakaa
open Go.RowKit
set_option linter.unusedVariables false

set_option maxRecDepth 100000 in
set_option maxHeartbeats 4000000 in
theorem polyParts_walk (w : World) (a : ByteArray) (ha : a.size ≤ 140737488351232) (b : ByteArray) (hb : b.size ≤ 140737488351232) (c : ByteArray) (hc : c.size ≤ 140737488351232) :
    Calls Try.prog 3 #[.string a, .string b, .string c] w fun e w' => e = .returned (.bool true) ∧ Below w.heap.size w w' := by
  have h97 : hv [97] = 98 := by decide
  have pA := fun W => polyOf_any a W (small_len _ (by omega))
  have pB := fun W => polyOf_any b W (small_len _ (by omega))
  have pC := fun W => polyOf_any c W (small_len _ (by omega))
  have PA := Lib.hid pA
  have PB := Lib.hid pB
  have PC := Lib.hid pC
  clear pA pB pC
  go_enter Try.func3, Try.ntmps3
  go_wp2_with fail
  refine (PA.out _).mono ?_
  rintro e w1 ⟨rfl, hb1⟩
  go_wp2_with fail
  refine (PB.out _).mono ?_
  rintro e w2 ⟨rfl, hb2⟩
  go_wp2_with fail
  refine (Join_of _ _ _).mono ?_
  rintro e w3 ⟨rfl, hb3⟩
  go_wp2_with fail
  refine (PB.out _).mono ?_
  rintro e w4 ⟨rfl, hb4⟩
  go_wp2_with fail
  refine (PC.out _).mono ?_
  rintro e w5 ⟨rfl, hb5⟩
  go_wp2_with fail
  refine (Join_of _ _ _).mono ?_
  rintro e w6 ⟨rfl, hb6⟩
  have s3 : w3.heap.size < w6.heap.size := by have := hb4.size; have := hb5.size; have := hb6.size; simp at *; omega
  obtain ⟨X0, X1⟩ : w6.cell? ⟨w3.heap.size, 0, none⟩ = some (.int .i64 (hv (a.data.toList ++ b.data.toList))) ∧ w6.cell? ⟨w3.heap.size, 1, none⟩ = some (.int .i64 (hs (a.data.toList ++ b.data.toList))) := by
    have hbb := bstep (bstep hb4 hb5) hb6
    obtain ⟨hc, _⟩ := bcell hbb
    rw [hc _ _ (by simp), hc _ _ (by simp)]; simp [go_sem]
  have k1 : Below w.heap.size w w6 := bstep (bstep (bstep ((bstep (bstep hb1 hb2) hb3).alloc (by have := hb1.size; have := hb2.size; have := hb3.size; omega) _) hb4) hb5) hb6
  clear hb1 hb2 hb3 hb4 hb5 hb6
  go_wp2_with fail
  have s9 : w6.heap.size < (w6.alloc (Obj.cells #[.int .i64 (hv (b.data.toList ++ c.data.toList)), .int .i64 (hs (b.data.toList ++ c.data.toList))] 23)).heap.size := by simp
  obtain ⟨X0', X1', Y0, Y1⟩ : (w6.alloc (Obj.cells #[.int .i64 (hv (b.data.toList ++ c.data.toList)), .int .i64 (hs (b.data.toList ++ c.data.toList))] 23)).cell? ⟨w3.heap.size, 0, none⟩ = some (.int .i64 (hv (a.data.toList ++ b.data.toList))) ∧ (w6.alloc (Obj.cells #[.int .i64 (hv (b.data.toList ++ c.data.toList)), .int .i64 (hs (b.data.toList ++ c.data.toList))] 23)).cell? ⟨w3.heap.size, 1, none⟩ = some (.int .i64 (hs (a.data.toList ++ b.data.toList))) ∧ (w6.alloc (Obj.cells #[.int .i64 (hv (b.data.toList ++ c.data.toList)), .int .i64 (hs (b.data.toList ++ c.data.toList))] 23)).cell? ⟨w6.heap.size, 0, none⟩ = some (.int .i64 (hv (b.data.toList ++ c.data.toList))) ∧ (w6.alloc (Obj.cells #[.int .i64 (hv (b.data.toList ++ c.data.toList)), .int .i64 (hs (b.data.toList ++ c.data.toList))] 23)).cell? ⟨w6.heap.size, 1, none⟩ = some (.int .i64 (hs (b.data.toList ++ c.data.toList))) := by
    simp [go_sem, X0, X1, s3]
  replace k1 := k1.alloc k1.size (Obj.cells #[.int .i64 (hv (b.data.toList ++ c.data.toList)), .int .i64 (hs (b.data.toList ++ c.data.toList))] 23)
  generalize w6.alloc (Obj.cells #[.int .i64 (hv (b.data.toList ++ c.data.toList)), .int .i64 (hs (b.data.toList ++ c.data.toList))] 23) = W at *
  clear X0 X1
  generalize w6.heap.size = g9 at *
  generalize w3.heap.size = g7 at *
  have s7 : g7 < W.heap.size := by omega
  clear s3
  have J1 := Lib.hid (fun W => Join_of (a.data.toList ++ b.data.toList) c.data.toList W)
  go_cut [11, 12] (fun p e wc => ∃ g : Nat, p = .pointer (some ⟨g, 0, none⟩) ∧ e = .int .i64 0 ∧ TwoAt W wc g (.int .i64 (hv (a.data.toList ++ (b.data.toList ++ c.data.toList)))) (.int .i64 (hs (a.data.toList ++ (b.data.toList ++ c.data.toList)))))
  case first =>
    have B0 := drew_below W
    go_region_held3 (fun w' => w'.cell? ⟨g7, 0, none⟩ = some (.int .i64 (hv (a.data.toList ++ b.data.toList))) ∧ w'.cell? ⟨g7, 1, none⟩ = some (.int .i64 (hs (a.data.toList ++ b.data.toList))))
    (first | (with_reducible exact X9) | (with_reducible exact X8) | go_keep | (with_reducible exact two_set (by omega) X9))
    (first
      | (go_at_call 16; refine (PC.out _).mono ?_; rintro e w8 ⟨rfl, hb8⟩; obtain ⟨hc8, hf8⟩ := bcell hb8; have z8 := hb8.size; (try simp at z8); (try have y8 : W.heap.size < w8.heap.size := by omega); have r8 : W.heap.size ≤ w8.heap.size := (by omega); have B8 : Below W.heap.size W w8 := (bstep (by first | exact B0 | exact B0.alloc (Nat.le_refl _) _) hb8); have X8 := two_below (g := g7) hb8 (by first | exact s7 | omega | (simp; omega)) (by assumption))
      | (go_at_call 15; refine (J1.out _).mono ?_; rintro e w9 ⟨rfl, hb9⟩; obtain ⟨hc9, hf9⟩ := bcell hb9; have z9 := hb9.size; (try simp at z9); (try have y9 : W.heap.size < w9.heap.size := by omega); have r9 : W.heap.size ≤ w9.heap.size := (by omega); have B9 : Below W.heap.size W w9 := (bstep (by first | exact B8 | exact B8.alloc B8.size _) hb9); have X9 := two_below (g := g7) hb9 (by first | exact s7 | omega | (simp; omega)) (by assumption)))
    all_goals (go_wp2_with fail; go_meet)
    all_goals (first
      | exact ⟨_, rfl, rfl, two_at_new B9 _ _ _⟩
      | exact ⟨_, rfl, rfl, two_at_set B9 r8 (two_below hb9 (by simp) (two_new _ _ _ _)) _ _⟩
      | exact ⟨_, rfl, rfl, two_at_set B9 (Nat.le_refl _) (two_below hb9 y8 (two_below hb8 (by simp) (two_new _ _ _ _))) _ _⟩)
  case rest =>
    obtain ⟨g11, rfl, rfl, hg, hge, hT, hbw⟩ := hcut
    have k2 := bstep k1 hbw
    have Y8 := two_below (g := g9) hbw s9 ⟨Y0, Y1⟩
    have X8 := two_below (g := g7) hbw s7 ⟨X0', X1'⟩
    have s9' : g9 < wc.heap.size := Nat.lt_of_lt_of_le s9 hbw.size
    have s7' : g7 < wc.heap.size := Nat.lt_of_lt_of_le s7 hbw.size
    clear Y0 Y1 X0' X1' hbw hge k1 s9 s7
    generalize wc = W at *
    have J2 := Lib.hid (fun W => Join_of a.data.toList (b.data.toList ++ c.data.toList) W)
    clear J1
    obtain ⟨Y0, Y1⟩ := Y8
    go_wp2_with fail
    go_cut [13, 14] (fun p e wc => ∃ g : Nat, p = .pointer (some ⟨g, 0, none⟩) ∧ e = .int .i64 0 ∧ TwoAt W wc g (.int .i64 (hv (a.data.toList ++ (b.data.toList ++ c.data.toList)))) (.int .i64 (hs (a.data.toList ++ (b.data.toList ++ c.data.toList)))))
    case first =>
      have B0 := drew_below W
      go_region_held3 (fun w' => w'.cell? ⟨g9, 0, none⟩ = some (.int .i64 (hv (b.data.toList ++ c.data.toList))) ∧ w'.cell? ⟨g9, 1, none⟩ = some (.int .i64 (hs (b.data.toList ++ c.data.toList))))
      (first | (with_reducible exact X9) | (with_reducible exact X8) | go_keep | (with_reducible exact two_set (by omega) X9))
      (first
        | (go_at_call 16; refine (PA.out _).mono ?_; rintro e w8 ⟨rfl, hb8⟩; obtain ⟨hc8, hf8⟩ := bcell hb8; have z8 := hb8.size; (try simp at z8); (try have y8 : W.heap.size < w8.heap.size := by omega); have r8 : W.heap.size ≤ w8.heap.size := (by omega); have B8 : Below W.heap.size W w8 := (bstep (by first | exact B0 | exact B0.alloc (Nat.le_refl _) _) hb8); have X8 := two_below (g := g9) hb8 (by first | exact s9' | omega | (simp; omega)) (by assumption))
        | (go_at_call 15; refine (J2.out _).mono ?_; rintro e w9 ⟨rfl, hb9⟩; obtain ⟨hc9, hf9⟩ := bcell hb9; have z9 := hb9.size; (try simp at z9); (try have y9 : W.heap.size < w9.heap.size := by omega); have r9 : W.heap.size ≤ w9.heap.size := (by omega); have B9 : Below W.heap.size W w9 := (bstep (by first | exact B8 | exact B8.alloc B8.size _) hb9); have X9 := two_below (g := g9) hb9 (by first | exact s9' | omega | (simp; omega)) (by assumption)))
      all_goals (go_wp2_with fail; go_meet)
      all_goals (first
        | exact ⟨_, rfl, rfl, two_at_new B9 _ _ _⟩
        | exact ⟨_, rfl, rfl, two_at_set B9 r8 (two_below hb9 (by simp) (two_new _ _ _ _)) _ _⟩
        | exact ⟨_, rfl, rfl, two_at_set B9 (Nat.le_refl _) (two_below hb9 y8 (two_below hb8 (by simp) (two_new _ _ _ _))) _ _⟩)
    case rest =>
      obtain ⟨g13, rfl, rfl, hg13, hge, hT13, hbw⟩ := hcut
      have k3 := bstep k2 hbw
      have X7 := two_below (g := g7) hbw s7' X8
      have X11 := two_below (g := g11) hbw hg hT
      have z7 : g7 < wc.heap.size := Nat.lt_of_lt_of_le s7' hbw.size
      have z11 : g11 < wc.heap.size := Nat.lt_of_lt_of_le hg hbw.size
      clear Y0 Y1 X8 hbw hge k2 s9' s7' J2 hT
      have pAB := fun W => polyOf_any (a ++ b) W (small_len _ (by simp only [ByteArray.size_append]; omega))
      have pABC := fun W => polyOf_any (a ++ b ++ c) W (small_len _ (by simp only [ByteArray.size_append]; omega))
      have p97 := fun W => polyOf_any ⟨#[97]⟩ W (small_len _ (by decide))
      rw [append_data] at pAB
      rw [append_data, append_data, List.append_assoc] at pABC
      have h97' : hs [97] = 257 := by decide
      have e97 : (ByteArray.mk #[97]).data.toList = [97] := rfl
      rw [e97, h97, h97'] at p97
      have PAB := Lib.hid pAB
      have PABC := Lib.hid pABC
      have P97 := Lib.hid p97
      clear pAB pABC p97 h97 h97' e97 PA PB PC
      go_wp2_with fail
      refine wp_region_below (by kernel_rfl) (by kernel_rfl) ?_
      intro ι F hne hF hG
      have c0 : ∀ i, (F i).cell? ⟨g7, 0, none⟩ = some (.int .i64 (hv (a.data.toList ++ b.data.toList))) := fun i => ((hF i).cell (p := ⟨g7, 0, none⟩) z7).trans X7.1
      have c1 : ∀ i, (F i).cell? ⟨g7, 1, none⟩ = some (.int .i64 (hs (a.data.toList ++ b.data.toList))) := fun i => ((hF i).cell (p := ⟨g7, 1, none⟩) z7).trans X7.2
      have d0 : ∀ i, (F i).cell? ⟨g11, 0, none⟩ = some (.int .i64 (hv (a.data.toList ++ (b.data.toList ++ c.data.toList)))) := fun i => ((hF i).cell (p := ⟨g11, 0, none⟩) z11).trans X11.1
      have d1 : ∀ i, (F i).cell? ⟨g11, 1, none⟩ = some (.int .i64 (hs (a.data.toList ++ (b.data.toList ++ c.data.toList)))) := fun i => ((hF i).cell (p := ⟨g11, 1, none⟩) z11).trans X11.2
      have f0 : ∀ i, (F i).cell? ⟨g13, 0, none⟩ = some (.int .i64 (hv (a.data.toList ++ (b.data.toList ++ c.data.toList)))) := fun i => ((hF i).cell (p := ⟨g13, 0, none⟩) hg13).trans hT13.1
      have f1 : ∀ i, (F i).cell? ⟨g13, 1, none⟩ = some (.int .i64 (hs (a.data.toList ++ (b.data.toList ++ c.data.toList)))) := fun i => ((hF i).cell (p := ⟨g13, 1, none⟩) hg13).trans hT13.2
      repeat go_big_quiet_step (first
        | ((with_reducible refine (P97.out _).mono ?_); rintro e w1 ⟨rfl, hb⟩; exact ⟨rfl, hG _ _ hb⟩)
        | ((with_reducible refine (PAB.out _).mono ?_); rintro e w1 ⟨rfl, hb⟩; exact ⟨rfl, hG _ _ hb⟩)
        | ((with_reducible refine (PABC.out _).mono ?_); rintro e w1 ⟨rfl, hb⟩; exact ⟨rfl, hG _ _ hb⟩))
      refine wpQuiet_nil ?_
      intro _ hw'
      obtain ⟨nq, rfl⟩ := hw'
      have hbF := hF nq
      generalize F nq = wz at *
      clear c0 c1 d0 d1 f0 f1 hF hG
      go_wp2_with fail
      go_ret
      exact ⟨rfl, bstep k3 hbF⟩
end Go.Proofs.Ytafbkdgdhglakaa
