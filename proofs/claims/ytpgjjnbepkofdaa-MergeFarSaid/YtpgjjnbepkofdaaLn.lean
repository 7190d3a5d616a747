/-
  The walk of the statements' helper Lines: lines of one byte.
-/
import Derived.Test.YtpgjjnbepkofdaaPick
import Derived.Test.YtpgjjnbepkofdaaOpen
namespace Go.Proofs.Ytpgjjnbepkofdaa
open Go.RowKit
set_option linter.unusedVariables false

theorem string_info : (Try.prog.info? 9).map (fun i => (i.zero, i.size, i.bytes)) = some (some (.string ⟨#[]⟩), 1, 16) := by kernel_rfl

def RetLines1 (n : Nat) (w : World) (e : Ending) (w' : World) : Prop := ∃ v ss, e = .returned v ∧ SRow w' v ss ∧ ss.length ≤ n ∧ (∀ s ∈ ss, s.size = 1) ∧ Below w.heap.size w w'

set_option maxHeartbeats 1000000 in
theorem lines1_any (v : Value) (xs : List Int) (n kinds : Nat) (w : World) (hr : Row .i64 w v xs) (hn2 : n ≤ 100) (hk : 1 ≤ kinds) (hk2 : kinds ≤ 8) :
    Calls Try.prog 13 #[v, .int .i64 n, .int .i64 kinds] w (RetLines1 n w) := by
  have hbd := hr.bd
  obtain ⟨A, c, rfl, hl, hc, hw, hrd⟩ := hr
  unfold maxLen at hc
  go_enter Try.func13, Try.ntmps13
  go_wp2
  go_loopw [7, 8] (fun o i wr => ∃ (k : Nat) (ss : List ByteArray), k ≤ xs.length ∧ k ≤ n ∧ i = .int .i64 k ∧ wr.ownsRow w.heap.size 9 1 o k (ss.map .string) ∧ ss.length = k ∧ (∀ s ∈ ss, s.size = 1) ∧ Below w.heap.size w wr) (fun _ i _ => xs.length - (intOf i).toNat)
  case atStart => exact ⟨0, [], Nat.zero_le _, Nat.zero_le _, rfl, World.ownsRow_nil _ _ _ _, rfl, by simp, Below.refl _ _⟩
  case round =>
    obtain ⟨k, ss, hkl, hkn, rfl, hown, hsl, hss, hbel⟩ := hrel
    by_cases hlt : k < xs.length
    · by_cases hlt2 : k < n
      · obtain ⟨b0, o0, rfl, hb0, hcell⟩ := Row.at_ hrd hlt
        have hcell2 := hcell
        rw [← hbel.cell (by simpa using hb0)] at hcell
        have hb := hbd k
        generalize hg : xs.getD k 0 = x at *
        clear hg hcell2
        have hp := fun W => picked_any x kinds W hb (by omega) (by omega)
        have hm := Int.emod_nonneg x (show (kinds : Int) ≠ 0 by omega)
        have hm2 := Int.emod_lt_of_pos x (show (0 : Int) < kinds by omega)
        generalize x % (kinds : Int) = y at *
        by_cases h8 : 8 ≤ kinds
        · have e8 : (kinds : Int) = 8 := by omega
          have hp2 := hp
          rw [e8] at hp2 hm2
          clear e8 hp
          have hp := hp2
          clear hp2
          go_wp2_with fail
          refine (hp _).mono ?_
          rintro e w' ⟨rfl, rfl⟩
          go_wp2_with (at_builtin; refine wpList_app1 (W := wr) rfl (.tmp 20) (.tmp 30) _ rfl w.heap.size 9 _ 16 Try.underlying24 string_info rfl _ k _ rfl hown _ rfl rfl rfl (by omega) (by omega) hbel.size ?_)
          intro v' w' hown' hbt _
          have hbel' := hbt _ (Nat.le_refl _) _ hbel
          clear hcell hown hbt
          go_wp2_with fail
          go_roundw
          case rel =>
            refine ⟨k + 1, ss ++ [_], by omega, by omega, by go_num, by simpa using hown', by simp [hsl], fun s hs => ?_, hbel'⟩
            rcases List.mem_append.1 hs with h | h
            · exact hss s h
            · simp only [List.mem_singleton] at h
              subst h
              simp
              have h88 : (⟨#[97, 98, 99, 100, 101, 102, 103, 104]⟩ : ByteArray).size = 8 := rfl
              omega
          case measure => simp [intOf]; omega
        · go_wp2_with fail
          refine (hp _).mono ?_
          rintro e w' ⟨rfl, rfl⟩
          go_wp2_with (at_builtin; refine wpList_app1 (W := wr) rfl (.tmp 20) (.tmp 30) _ rfl w.heap.size 9 _ 16 Try.underlying24 string_info rfl _ k _ rfl hown _ rfl rfl rfl (by omega) (by omega) hbel.size ?_)
          intro v' w' hown' hbt _
          have hbel' := hbt _ (Nat.le_refl _) _ hbel
          clear hcell hown hbt
          go_wp2_with fail
          go_roundw
          case rel =>
            refine ⟨k + 1, ss ++ [_], by omega, by omega, by go_num, by simpa using hown', by simp [hsl], fun s hs => ?_, hbel'⟩
            rcases List.mem_append.1 hs with h | h
            · exact hss s h
            · simp only [List.mem_singleton] at h
              subst h
              simp
              have h88 : (⟨#[97, 98, 99, 100, 101, 102, 103, 104]⟩ : ByteArray).size = 8 := rfl
              omega
          case measure => simp [intOf]; omega
      · go_wp2
        go_ret
        exact ⟨_, ss, rfl, SRow.of_own (by rw [hsl]; exact hown), by omega, hss, hbel⟩
    · go_wp2
      go_ret
      exact ⟨_, ss, rfl, SRow.of_own (by rw [hsl]; exact hown), by omega, hss, hbel⟩
def RetLines (n : Nat) (w : World) (e : Ending) (w' : World) : Prop := ∃ v ss, e = .returned v ∧ SRow w' v ss ∧ ss.length ≤ n ∧ (∀ s ∈ ss, s.size ≤ 600) ∧ Below w.heap.size w w'
theorem lines_any (v : Value) (xs : List Int) (n kinds : Nat) (w : World) (hr : Row .i64 w v xs) (hn2 : n ≤ 100) (hk : 1 ≤ kinds) (hk2 : kinds ≤ 8) :
    Calls Try.prog 13 #[v, .int .i64 n, .int .i64 kinds] w (RetLines n w) := by
  refine (lines1_any v xs n kinds w hr hn2 hk hk2).mono ?_
  rintro e w' ⟨v, ss, rfl, h1, h2, h3, h4⟩
  exact ⟨v, ss, rfl, h1, h2, fun s hs => by rw [h3 s hs]; omega, h4⟩
theorem lines_at (z : Int) (n : Nat) (hz : z = n) (v : Value) (xs : List Int) (kinds : Nat) (w : World) (hr : Row .i64 w v xs) (hn2 : n ≤ 100) (hk : 1 ≤ kinds) (hk2 : kinds ≤ 8) :
    Calls Try.prog 13 #[v, .int .i64 z, .int .i64 kinds] w (RetLines n w) := by
  subst hz; exact lines_any v xs n kinds w hr hn2 hk hk2

end Go.Proofs.Ytpgjjnbepkofdaa
