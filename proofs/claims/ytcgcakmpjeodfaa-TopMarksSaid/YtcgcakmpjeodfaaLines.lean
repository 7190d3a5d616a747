/-
  The walks of lines.Of and lines.Starts: the offsets at which lines start, 0 and each offset behind a line feed. Condition: at most 100000 bytes (Starts: at most MaxText). Nothing that was there is changed.
-/
import Derived.Test.YtcgcakmpjeodfaaText
namespace Go.Proofs.Ytcgcakmpjeodfaa
open Go.RowKit
set_option linter.unusedVariables false

def nls : List UInt8 → Int → List Int
  | [], _ => []
  | c :: l, i => if c = 10 then (i + 1) :: nls l (i + 1) else nls l (i + 1)
def starts (l : List UInt8) : List Int := 0 :: nls l 0
theorem nls_append (a b : List UInt8) (i : Int) : nls (a ++ b) i = nls a i ++ nls b (i + a.length) := by
  induction a generalizing i with
  | nil => simp [nls]
  | cons c a ih =>
    have e : i + 1 + (a.length : Int) = i + ((a.length : Int) + 1) := by omega
    by_cases h : c = 10
    · simp [nls, h, ih, e]
    · simp [nls, h, ih, e]
theorem nls_shift (b : List UInt8) (i j : Int) : nls b (i + j) = (nls b i).map (· + j) := by
  induction b generalizing i with
  | nil => rfl
  | cons c b ih =>
    have e : i + j + 1 = (i + 1) + j := by omega
    by_cases h : c = 10
    · simp [nls, h, e, ih]
    · simp [nls, h, e, ih]
theorem starts_snoc (l : List UInt8) (c : UInt8) : starts (l ++ [c]) = starts l ++ if c = 10 then [(l.length : Int) + 1] else [] := by
  unfold starts; rw [nls_append]; by_cases h : c = 10 <;> simp [nls, h]
theorem nls_len (l : List UInt8) (i : Int) : (nls l i).length ≤ l.length := by
  induction l generalizing i with
  | nil => simp [nls]
  | cons c l ih => have := ih (i + 1); by_cases h : c = 10 <;> simp [nls, h] <;> omega
theorem nls_bd (l : List UInt8) (i : Int) : ∀ x ∈ nls l i, i < x ∧ x ≤ i + l.length := by
  induction l generalizing i with
  | nil => simp [nls]
  | cons c l ih =>
    intro x hx
    by_cases h : c = 10
    · simp [nls, h] at hx
      rcases hx with rfl | hx
      · simp; omega
      · have := ih (i + 1) x hx; simp; omega
    · simp [nls, h] at hx
      have := ih (i + 1) x hx; simp; omega
theorem starts_len (l : List UInt8) : (starts l).length ≤ l.length + 1 := by have := nls_len l 0; simp [starts]; omega
theorem wf_i64 (x : Int) (h : -9223372036854775808 ≤ x ∧ x ≤ 9223372036854775807) : (Lit.int .i64 x).wf = true := by
  simp [Lit.wf, IntKind.min, IntKind.max, IntKind.signed, IntKind.bits]; omega
theorem starts_wf (l : List UInt8) (h : l.length ≤ 1000000) : ∀ x ∈ starts l, (Lit.int .i64 x).wf = true := by
  intro x hx
  simp only [starts, List.mem_cons] at hx
  rcases hx with rfl | hx
  · exact wf_i64 0 (by omega)
  · have := nls_bd l 0 x hx; exact wf_i64 x (by omega)

def RetRow (k : IntKind) (xs : List Int) (w : World) (e : Ending) (w' : World) : Prop := ∃ v, e = .returned v ∧ Row k w' v xs ∧ Below w.heap.size w w'
def RetRowE (k : IntKind) (xs : List Int) (w : World) (e : Ending) (w' : World) : Prop := ∃ v, e = .returned (.tuple #[v, .int .i64 0]) ∧ Row k w' v xs ∧ Below w.heap.size w w'


set_option maxRecDepth 100000 in
set_option maxHeartbeats 1000000 in
theorem linesOf_any (s : ByteArray) (w : World) (hs : s.size ≤ 100000) :
    Calls Try.prog 44 #[.string s] w (RetRow .i64 (starts s.data.toList) w) := by
  obtain ⟨i0, hi, hz0, hz1, hz2⟩ := info_parts int_info
  go_enter Try.func44, Try.ntmps44
  go_wp2
  go_loopw [3, 8] (fun o i wr => ∃ k : Nat, k ≤ s.size ∧ i = .int .i64 k ∧ wr.ownsRow w.heap.size 3 1 o (starts (s.data.toList.take k)).length ((starts (s.data.toList.take k)).map (.int .i64)) ∧ Below w.heap.size w wr) (fun _ i _ => s.size - (intOf i).toNat)
  case atStart => exact ⟨0, Nat.zero_le _, rfl, ⟨rfl, .inr ⟨_, 1, #[.int .i64 0], rfl, Nat.le_refl _, heap_alloc_new w _, Nat.le_refl _, by decide, rfl, rfl⟩⟩, (Below.refl _ _).alloc (Nat.le_refl _) _⟩
  case round =>
    obtain ⟨k, hk, rfl, hown, hbel⟩ := hrel
    by_cases hlt : k < s.size
    · have hsn := starts_snoc (s.data.toList.take k) s[k]
      rw [← take_snoc s k hlt] at hsn
      have hlk : (s.data.toList.take k).length = k := by simp; omega
      rw [hlk] at hsn
      have hln := starts_len (s.data.toList.take k)
      rw [hlk] at hln
      have H1 := Lib.hid hsn
      clear hsn hlk
      have hb := byte_lt s[k]
      by_cases hten : s[k] = 10
      · have hq : ((s[k].toNat : Int) == 10) = true := by rw [hten]; rfl
        rw [if_pos hten] at H1
        have H2 := Lib.hid hten
        clear hten
        go_wp2_with (at_builtin; refine wpList_app1 rfl (.tmp 15) (.tmp 18) _ rfl w.heap.size 3 _ 8 Try.underlying22 int_info rfl _ _ _ rfl hown (.int .i64 ((k : Int) + 1)) rfl rfl rfl (by omega) (by omega) hbel.size ?_)
        intro v' w1 hown' hbel' _
        replace hbel' := hbel' _ (Nat.le_refl _) _ hbel
        go_wp2
        go_roundw
        case rel =>
          refine ⟨k + 1, by omega, by go_num, by rw [H1.out]; simpa using hown', ?_⟩
          exact hbel'
        case measure => simp [intOf]; omega
      · have hq : ((s[k].toNat : Int) == 10) = false := by
          rw [beq_eq_false_iff_ne]; intro e; exact hten (UInt8.toNat_inj.1 (by have : (10 : UInt8).toNat = 10 := rfl; omega))
        rw [if_neg hten] at H1
        go_wp2
        go_roundw
        case rel => exact ⟨k + 1, by omega, by go_num, by rw [H1.out, List.append_nil]; exact hown, hbel⟩
        case measure => simp [intOf]; omega
    · have H1 := Lib.hid (take_all s k (by omega))
      go_wp2
      go_ret
      rw [H1.out] at hown
      exact ⟨_, rfl, row_of_own hown (starts_wf _ (by simp; omega)), hbel⟩

set_option maxHeartbeats 1000000 in
theorem Starts_any (s : ByteArray) (w : World) (hs : s.size ≤ 600) :
    Calls Try.prog 15 #[.string s] w (RetRowE .i64 (starts s.data.toList) w) := by
  have hd : decide (600 < (s.size : Int)) = false := by simp; omega
  go_enter Try.func15, Try.ntmps15
  go_wp2_with fail
  refine (linesOf_any s _ (by omega)).mono ?_
  rintro e w1 ⟨v, rfl, hr, hb⟩
  go_wp2_with fail
  go_ret2
  exact ⟨v, rfl, hr, hb⟩
end Go.Proofs.Ytcgcakmpjeodfaa
