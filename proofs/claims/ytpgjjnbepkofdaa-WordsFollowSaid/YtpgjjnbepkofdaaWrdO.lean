/-
  The walks of words.Of, words.Noted and words.Find.
-/
import Derived.Test.YtpgjjnbepkofdaaWrdE
import Derived.Maps.GroupsBeside
namespace Go.Proofs.Ytpgjjnbepkofdaa
open Go.RowKit Go.WideMaps Go.Maps Go.ChangeShapes Go.ChangeMaps
set_option linter.unusedVariables false
set_option linter.unusedSimpArgs false

/-- All words of a text. -/
def wordsOf (text : ByteArray) : List (List UInt8 × Nat) := wdsA text.data.toList [] 0
theorem noteAll_places (ws : List (List UInt8 × Nat)) (g : ByteArray → List Int) (s : ByteArray) : noteAll g ws s = g s ++ placesOf ws s.data.toList := by
  induction ws generalizing g with
  | nil => simp [noteAll, placesOf]
  | cons x t ih =>
    have h1 : noteAll g (x :: t) = noteAll (noted g ⟨x.1.toArray⟩ (x.2 : Int)) t := rfl
    rw [h1, ih, show x :: t = [x] ++ t from rfl, placesOf_append, ← List.append_assoc]
    congr 1
    obtain ⟨l, p⟩ := x
    rw [placesOf_one]
    unfold noted
    by_cases h : l = s.data.toList
    · subst h
      simp
    · have h2 : ¬ s = ⟨l.toArray⟩ := fun e => h (by rw [e])
      simp [h, h2]
theorem Tbl.below {w w' : World} {b base n : Nat} {g : ByteArray → List Int} (h : Tbl w b base n g) (hb : Below w.heap.size w w') : Tbl w' b base n g := by
  obtain ⟨D, h1, h2⟩ := h
  exact ⟨D, h1.kept (grown_of_below hb none) (by simp) (fun _ _ _ x _ => by cases x.val.ownBlock <;> simp), h2⟩
theorem Tbl.congr {w : World} {b base n : Nat} {g g' : ByteArray → List Int} (h : Tbl w b base n g) (e : ∀ s, g s = g' s) : Tbl w b base n g' := by
  obtain rfl : g = g' := funext e
  exact h
def OfPost (text : ByteArray) (w : World) (e : Ending) (w' : World) : Prop :=
  ∃ b base n, e = .returned (.map (some b)) ∧ n ≤ text.size + 2 ∧ w.heap.size ≤ b ∧ base ≤ w'.heap.size ∧ Tbl w' b base n (fun s => placesOf (wordsOf text) s.data.toList) ∧ Below w.heap.size w w'
set_option maxRecDepth 100000 in
set_option maxHeartbeats 4000000 in
theorem of_any (text : ByteArray) (w : World) (htx : text.size ≤ 100000) : Calls Try.prog 36 #[.string text] w (OfPost text w) := by
  have hmm := @run_makeMap Try.prog
  have hw : wordsIn text.data.toList 0 text.size = wordsOf text := by
    unfold wordsIn wordsOf
    rw [List.drop_zero, List.take_of_length_le (by simp)]
  have HW := Lib.hid hw
  clear hw
  go_enter Try.func36, Try.ntmps36
  go_wp2_with fail
  have T0 := Tbl.below (Tbl.made w) ((Below.refl _ _).alloc (Nat.le_refl _) (.cells #[.map (some w.heap.size)] 76))
  have B0 := Blk.new (w.alloc (.map #[] 0)) 76 #[.map (some w.heap.size)]
  have hsz : (w.alloc (.map #[] 0)).heap.size = w.heap.size + 1 := by simp
  rw [hsz] at B0
  have BE : Below w.heap.size w ((w.alloc (.map #[] 0)).alloc (.cells #[.map (some w.heap.size)] 76)) := ((Below.refl _ _).alloc (Nat.le_refl _) _).alloc (by simp) _
  have E1 := each1_any text 0 text.size (w.heap.size + 1) w.heap.size (w.heap.size + 1) 0 (fun _ => []) _ ⟨B0, T0, by simp⟩ (Nat.zero_le _) (Nat.le_refl _) htx (by omega)
  rw [HW.out] at E1
  have E2 := Lib.hid E1
  have HBE := Lib.hid BE
  clear E1 BE T0 B0 hsz
  refine E2.out.mono ?_
  rintro e w1 ⟨rfl, ⟨n', hn', ht⟩, hb1⟩
  have c0 := ht.blk.cell 0
  have HT := Lib.hid ht
  have HB1 := Lib.hid (HBE.out.trans (hb1 _ (Nat.le_refl _)))
  clear ht hb1 E2 HBE
  go_wp2_with fail
  go_ret
  exact ⟨_, _, n', rfl, by omega, Nat.le_refl _, HT.out.low, HT.out.tbl.congr (fun s => by rw [noteAll_places]; rfl), HB1.out⟩
theorem noted_any (s : ByteArray) (w : World) (h : s.data.toList ≠ []) (h2 : s.size ≤ 12) (hp : ∀ c ∈ s.data.toList, partB c = true) : Calls Try.prog 35 #[.string s] w fun e w' => e = .returned (.bool true) ∧ w = w' := by
  have hpos : 0 < s.size := by
    have := List.length_pos_iff.2 h
    simpa using this
  have hne : s.toList.isEmpty = false := by
    rw [ByteArray.toList_eq]
    cases hl : s.data.toList with
    | nil => exact absurd hl h
    | cons a t => rfl
  have HP := Lib.hid hp
  clear h hp
  go_enter Try.func35, Try.ntmps35
  go_wp2_with fail
  go_loopw [6] (fun v W => W = w ∧ ∃ k : Nat, k ≤ s.size ∧ v = .int .i64 (k : Int)) (fun v _ => s.size - (intOf v).toNat)
  case atStart => exact ⟨rfl, 0, Nat.zero_le _, rfl⟩
  case round =>
    obtain ⟨rfl, k, hk, rfl⟩ := hrel
    rcases Nat.lt_or_ge k s.size with hlt | hge
    · have hlt2 : (k : Int) < (s.size : Int) := by omega
      have hb : partB s[k] = true := HP.out _ (by rw [← bytes_at s k hlt]; exact List.getElem_mem _)
      have P := Lib.hid (part1_any s[k] wr)
      rw [hb] at P
      clear hb
      go_wp2_with fail
      refine P.out.mono ?_
      rintro e w1 ⟨rfl, rfl⟩
      go_wp2_with fail
      exact ⟨⟨trivial, k + 1, by omega, by go_num⟩, by simp [intOf]; omega⟩
    · have hge2 : decide ((k : Int) < (s.size : Int)) = false := decide_eq_false (by omega)
      have hsz2 : (s.size : Int) ≤ 12 := by omega
      go_wp2_with fail
      go_ret
      exact ⟨rfl, rfl⟩
def FindPost (text word : ByteArray) (w : World) (e : Ending) (w' : World) : Prop :=
  ∃ v, e = .returned (.tuple #[v, .int .i64 0]) ∧ Row .i64 w' v (placesOf (wordsOf text) word.data.toList) ∧ Below w.heap.size w w'
set_option maxRecDepth 100000 in
set_option maxHeartbeats 4000000 in
theorem find_any (text word : ByteArray) (w : World) (htx : text.size ≤ 600) (h : word.data.toList ≠ []) (h2 : word.size ≤ 12) (hp : ∀ c ∈ word.data.toList, partB c = true) :
    Calls Try.prog 17 #[.string text, .string word] w (FindPost text word w) := by
  have N1 := Lib.hid (noted_any word w h h2 hp)
  have O1 := Lib.hid (of_any text w (by omega))
  have htx2 : decide ((600 : Int) < (text.size : Int)) = false := decide_eq_false (by omega)
  clear h hp
  go_enter Try.func17, Try.ntmps17
  go_wp2_with fail
  refine N1.out.mono ?_
  rintro e w1 ⟨rfl, rfl⟩
  go_wp2_with fail
  refine O1.out.mono ?_
  rintro e w1 ⟨b, base, n, rfl, hn, hb, hlow, ⟨D, hown, hD⟩, hbe⟩
  have hkey : keyOf Try.prog 9 (.string word) = some (.string word.data.toList) := keyOf_string_mk Try.underlying9 (by unfold maxLen; omega)
  obtain ⟨v, zs, hrun, hat, hoi, hzl, _⟩ := look_all hown table_law Try.underlying76 zeroInts (by unfold maxLen; omega) hkey
  have hzg : zs = placesOf (wordsOf text) word.data.toList := datI_eq hoi ((hD word (by unfold maxLen; omega)).1.symm.trans hat)
  have hrun1 := hrun w1 rfl
  have HOI := Lib.hid hoi
  have HZ := Lib.hid hzg
  have HBE := Lib.hid hbe
  clear hrun hat hoi hzg hbe hD hown hkey N1 O1
  go_wp2_with fail
  go_ret2
  have hb9 := HOI.out.2
  rw [HZ.out] at hb9
  have ho9 := HOI.out.1
  rw [HZ.out] at ho9
  exact ⟨v, rfl, row_of_own ho9 hb9, HBE.out⟩
end Go.Proofs.Ytpgjjnbepkofdaa
