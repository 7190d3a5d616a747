/-
  The walks of words.part and words.Each, and of words.Of.
-/
import Derived.Test.YtpgjjnbepkofdaaWrdC
import Derived.Test.YtpgjjnbepkofdaaWrdP
namespace Go.Proofs.Ytpgjjnbepkofdaa
open Go.RowKit
set_option linter.unusedVariables false
set_option linter.unusedSimpArgs false

theorem part1_any (c : UInt8) (w : World) : Calls Try.prog 72 #[.int .u8 (c.toNat : Int)] w fun e w' => e = .returned (.bool (partB c)) ∧ w = w' := by
  have key : partB c = true ∧ ((97 ≤ c.toNat ∧ c.toNat ≤ 122) ∨ (65 ≤ c.toNat ∧ c.toNat ≤ 90) ∨ (48 ≤ c.toNat ∧ c.toNat ≤ 57)) ∨ partB c = false ∧ (c.toNat < 48 ∨ (57 < c.toNat ∧ c.toNat < 65) ∨ (90 < c.toNat ∧ c.toNat < 97) ∨ 122 < c.toNat) := by
    unfold partB
    by_cases h : (97 ≤ c.toNat ∧ c.toNat ≤ 122) ∨ (65 ≤ c.toNat ∧ c.toNat ≤ 90) ∨ (48 ≤ c.toNat ∧ c.toNat ≤ 57)
    · exact .inl ⟨decide_eq_true h, h⟩
    · exact .inr ⟨decide_eq_false h, by omega⟩
  rcases key with ⟨e, ⟨h1, h2⟩ | ⟨h1, h2⟩ | ⟨h1, h2⟩⟩ | ⟨e, h1 | ⟨h1, h2⟩ | ⟨h1, h2⟩ | h1⟩
  all_goals
    rw [e]
    clear e
    go_enter Try.func72, Try.ntmps72
    go_wp2
    go_ret
    refine ⟨?_, rfl⟩
    first | rfl | (simp; done) | (simp; omega)
/-- All words of a list are noted. -/
def noteAll (g : ByteArray → List Int) (ws : List (List UInt8 × Nat)) : ByteArray → List Int := ws.foldl (fun g x => noted g ⟨x.1.toArray⟩ (x.2 : Int)) g
theorem noteAll_emit (g : ByteArray → List Int) (s : ByteArray) (k : Nat) (ws : List (List UInt8 × Nat)) (h1 : s.data.toList ≠ []) (h2 : s.size ≤ 12) : noteAll g (emit s.data.toList k ++ ws) = noteAll (noted g s (k : Int)) ws := by
  unfold emit
  rw [if_pos ⟨h1, by simpa using h2⟩]
  rfl
theorem noteAll_skip (g : ByteArray → List Int) (l : List UInt8) (k : Nat) (ws : List (List UInt8 × Nat)) (h : ¬ (l ≠ [] ∧ l.length ≤ 12)) : noteAll g (emit l k ++ ws) = noteAll g ws := by
  unfold emit
  rw [if_neg h, List.nil_append]
theorem bytes_at (text : ByteArray) (j : Nat) (hj : j < text.size) : text.data.toList[j]'(by simpa using hj) = text[j] := by
  rw [Array.getElem_toList]; rfl
theorem bytes_cut (text : ByteArray) (k j : Nat) : (text.extract k j).data.toList = (text.data.toList.take j).drop k := by
  rw [ByteArray.data_extract, Array.toList_extract, List.extract_eq_drop_take']
set_option maxRecDepth 100000 in
set_option maxHeartbeats 4000000 in
theorem each1_any (text : ByteArray) (lo hi bv b base n : Nat) (g : ByteArray → List Int) (w : World) (h : TabSt w bv b base n g) (hlh : lo ≤ hi) (hhi : hi ≤ text.size) (htx : text.size ≤ 100000) (hn : n ≤ 500000) :
    Calls Try.prog 45 #[.string text, .int .i64 (lo : Int), .int .i64 (hi : Int), .func (.func 73) #[] #[.pointer (some ⟨bv, 0, none⟩)]] w fun e w' => e = .returned (.tuple #[]) ∧ (∃ n', n' ≤ n + hi + 1 ∧ TabSt w' bv b base n' (noteAll g (wordsIn text.data.toList lo hi))) ∧ ∀ B, B ≤ b → Below B w w' := by
  have hlen : text.data.toList.length = text.size := by simp
  have HLEN := Lib.hid hlen
  have H0 := Lib.hid h
  clear hlen h
  obtain ⟨G, hG⟩ : ∃ G, noteAll g (wordsIn text.data.toList lo hi) = G := ⟨_, rfl⟩
  have HG := Lib.hid hG
  rw [hG]
  clear hG
  go_enter Try.func45, Try.ntmps45
  go_wp2_with fail
  go_loopw [8] (fun v W => ∃ (k m : Nat) (g1 : ByteArray → List Int), lo ≤ k ∧ k ≤ hi + 1 ∧ m ≤ n + k ∧ v = .int .i64 (k : Int) ∧ TabSt W bv b base m g1 ∧ noteAll g1 (wdsA ((text.data.toList.take hi).drop k) [] k) = G ∧ ∀ B, B ≤ b → Below B w W) (fun v _ => hi + 1 - (intOf v).toNat)
  case atStart => exact ⟨lo, n, g, Nat.le_refl _, by omega, by omega, rfl, H0.out, HG.out, fun B _ => Below.refl _ _⟩
  case round =>
    obtain ⟨k, m, g1, hk1, hk2, hm, rfl, ht, hg, hbe⟩ := hrel
    have HT := Lib.hid ht
    have HGG := Lib.hid hg
    have HBE := Lib.hid hbe
    clear ht hg hbe
    rcases Nat.lt_or_ge k hi with hk | hk
    · have P1 := Lib.hid (fun c W => part1_any c W)
      go_wp2_with fail
      go_loopw [8] (fun v W => W = wr ∧ ∃ j : Nat, k ≤ j ∧ j ≤ hi ∧ v = .int .i64 (j : Int) ∧ wdsA ((text.data.toList.take hi).drop j) ((text.data.toList.take j).drop k) k = wdsA ((text.data.toList.take hi).drop k) [] k) (fun v _ => hi - (intOf v).toNat)
      case atStart => exact ⟨rfl, k, Nat.le_refl _, by omega, rfl, by rw [show (text.data.toList.take k).drop k = [] from List.drop_eq_nil_of_le (by rw [List.length_take]; omega)]⟩
      case round =>
        obtain ⟨rfl, j, hj1, hj2, rfl, hj3⟩ := hrel
        have HJ := Lib.hid hj3
        clear hj3
        rcases Nat.lt_or_ge j hi with hj | hj
        · have hjs : (j : Int) < (text.size : Int) := by omega
          have hjn : j < text.size := by omega
          cases hpb : partB text[j] with
          | true =>
            have P2 := Lib.hid (P1.out text[j])
            rw [hpb] at P2
            have HPB := Lib.hid hpb
            clear hpb
            go_wp2_with fail
            refine (P2.out _).mono ?_
            rintro e w1 ⟨rfl, rfl⟩
            go_wp2_with fail
            exact ⟨⟨trivial, j + 1, by omega, by omega, by go_num, by rw [← HJ.out]; exact (wds_step _ k j hi hj1 hj (by rw [HLEN.out]; exact hhi) (by rw [bytes_at text j hjn]; exact HPB.out)).symm⟩, by simp [intOf]; omega⟩
          | false =>
            have P2 := Lib.hid (P1.out text[j])
            rw [hpb] at P2
            have HST := Lib.hid (wds_stop text.data.toList k j hi hj1 hj2 (by rw [HLEN.out]; exact hhi) (fun _ => by rw [bytes_at text j hjn]; exact hpb))
            clear hpb
            go_wp2_with fail
            refine (P2.out _).mono ?_
            rintro e w1 ⟨rfl, rfl⟩
            have hcl : ((text.data.toList.take j).drop k).length = j - k := by rw [List.length_drop, List.length_take, HLEN.out]; omega
            have HCL := Lib.hid hcl
            clear hcl
            rcases Nat.lt_or_ge k j with hkj | hkj
            · rcases Nat.lt_or_ge 12 (j - k) with h12 | h12
              · have q1 : (k : Int) < (j : Int) := by omega
                have q2 : decide ((j : Int) - (k : Int) ≤ 12) = false := decide_eq_false (by omega)
                go_wp2_with fail
                exact ⟨⟨j + 1, m, g1, by omega, by omega, by omega, by go_num, HT.out, by rw [← HGG.out, ← HJ.out, HST.out, noteAll_skip _ _ _ _ (fun h => by rw [HCL.out] at h; omega)], HBE.out⟩, by simp [intOf]; omega⟩
              · have q1 : (k : Int) < (j : Int) := by omega
                have q2 : (j : Int) - (k : Int) ≤ 12 := by omega
                have hsz : (text.extract k j).size = j - k := by rw [ByteArray.size_extract]; omega
                have CC := Lib.hid (of1_any bv b base m g1 (text.extract k j) (k : Int) wr HT.out (by rw [hsz]; unfold maxLen; omega) (by omega) (by omega))
                have HSZ := Lib.hid hsz
                clear hsz
                go_wp2_with fail
                refine CC.out.mono ?_
                rintro e w2 ⟨rfl, ht2, hb2⟩
                have HT2 := Lib.hid ht2
                have HBE2 := Lib.hid (fun B (hB : B ≤ b) => (HBE.out B hB).trans (hb2 B hB))
                clear ht2 hb2 CC
                go_wp2_with fail
                exact ⟨⟨j + 1, m + 1, noted g1 (text.extract k j) (k : Int), by omega, by omega, by omega, by go_num, HT2.out, by rw [← HGG.out, ← HJ.out, HST.out, ← bytes_cut text k j, noteAll_emit _ _ _ _ (fun h => by rw [bytes_cut] at h; have := HCL.out; rw [h] at this; simp at this; omega) (by rw [HSZ.out]; exact h12)], HBE2.out⟩, by simp [intOf]; omega⟩
            · have q1 : decide ((k : Int) < (j : Int)) = false := decide_eq_false (by omega)
              go_wp2_with fail
              all_goals exact ⟨⟨j + 1, m, g1, by omega, by omega, by omega, by go_num, HT.out, by rw [← HGG.out, ← HJ.out, HST.out, noteAll_skip _ _ _ _ (fun h => h.1 (List.eq_nil_of_length_eq_zero (by rw [HCL.out]; omega)))], HBE.out⟩, by simp [intOf]; omega⟩
        · have HST := Lib.hid (wds_stop text.data.toList k j hi hj1 hj2 (by rw [HLEN.out]; exact hhi) (fun h => absurd h (by omega)))
          have hjs : decide ((j : Int) < (hi : Int)) = false := decide_eq_false (by omega)
          have hcl : ((text.data.toList.take j).drop k).length = j - k := by rw [List.length_drop, List.length_take, HLEN.out]; omega
          have HCL := Lib.hid hcl
          clear hcl
          rcases Nat.lt_or_ge k j with hkj | hkj
          · rcases Nat.lt_or_ge 12 (j - k) with h12 | h12
            · have q1 : (k : Int) < (j : Int) := by omega
              have q2 : decide ((j : Int) - (k : Int) ≤ 12) = false := decide_eq_false (by omega)
              go_wp2_with fail
              exact ⟨⟨j + 1, m, g1, by omega, by omega, by omega, by go_num, HT.out, by rw [← HGG.out, ← HJ.out, HST.out, noteAll_skip _ _ _ _ (fun h => by rw [HCL.out] at h; omega)], HBE.out⟩, by simp [intOf]; omega⟩
            · have q1 : (k : Int) < (j : Int) := by omega
              have q2 : (j : Int) - (k : Int) ≤ 12 := by omega
              have hsz : (text.extract k j).size = j - k := by rw [ByteArray.size_extract]; omega
              have CC := Lib.hid (of1_any bv b base m g1 (text.extract k j) (k : Int) wr HT.out (by rw [hsz]; unfold maxLen; omega) (by omega) (by omega))
              have HSZ := Lib.hid hsz
              clear hsz
              go_wp2_with fail
              refine CC.out.mono ?_
              rintro e w2 ⟨rfl, ht2, hb2⟩
              have HT2 := Lib.hid ht2
              have HBE2 := Lib.hid (fun B (hB : B ≤ b) => (HBE.out B hB).trans (hb2 B hB))
              clear ht2 hb2 CC
              go_wp2_with fail
              exact ⟨⟨j + 1, m + 1, noted g1 (text.extract k j) (k : Int), by omega, by omega, by omega, by go_num, HT2.out, by rw [← HGG.out, ← HJ.out, HST.out, ← bytes_cut text k j, noteAll_emit _ _ _ _ (fun h => by rw [bytes_cut] at h; have := HCL.out; rw [h] at this; simp at this; omega) (by rw [HSZ.out]; exact h12)], HBE2.out⟩, by simp [intOf]; omega⟩
          · have q1 : decide ((k : Int) < (j : Int)) = false := decide_eq_false (by omega)
            go_wp2_with fail
            all_goals exact ⟨⟨j + 1, m, g1, by omega, by omega, by omega, by go_num, HT.out, by rw [← HGG.out, ← HJ.out, HST.out, noteAll_skip _ _ _ _ (fun h => h.1 (List.eq_nil_of_length_eq_zero (by rw [HCL.out]; omega)))], HBE.out⟩, by simp [intOf]; omega⟩
    · have hks : decide ((k : Int) < (hi : Int)) = false := decide_eq_false (by omega)
      have hgg := HGG.out
      rw [show (text.data.toList.take hi).drop k = [] from List.drop_eq_nil_of_le (by rw [List.length_take]; omega), wdsA, emit_nil] at hgg
      have HG2 := Lib.hid hgg
      clear hgg
      go_wp2_with fail
      go_end0
      exact ⟨rfl, ⟨m, by omega, by rw [← HG2.out]; exact HT.out⟩, HBE.out⟩
end Go.Proofs.Ytpgjjnbepkofdaa
