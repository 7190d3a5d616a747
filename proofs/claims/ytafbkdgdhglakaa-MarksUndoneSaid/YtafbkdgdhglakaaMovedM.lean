/-
  The walk of moved: marks moved by edits, told as they must be. Nothing that was there is changed.
-/
import Derived.Test.YtafbkdgdhglakaaMove
namespace Go.Proofs.Ytafbkdgdhglakaa
open Go.RowKit
set_option linter.unusedVariables false

def MovedPost (es : List Ed) (ms : List Mk) (w : World) (e : Ending) (w' : World) : Prop :=
  ∃ v, e = .returned (.tuple #[v, .bool true]) ∧ CRow 2 mkc w' v (ms.map (mvs es)) ∧ Below w.heap.size w w'

set_option maxRecDepth 100000 in
set_option maxHeartbeats 4000000 in
theorem movedM_any (n : Nat) (v1 v2 : Value) (ms : List Mk) (es : List Ed) (w : World) (h1 : CRow 2 mkc w v1 ms) (h2 : EdRow w v2 es) (hn : n ≤ 600) (hm : ∀ m ∈ ms, m.at_ ≤ n)
    (hml : ms.length ≤ 60) (hl : es.length ≤ 60) (hput : ∀ e ∈ es, e.put.size ≤ 600) (ho : okr n es) :
    Calls Try.prog 30 #[.int .i64 n, v1, v2] w (MovedPost es ms w) := by
  obtain ⟨i0, hi, hz0, hz1, hz2⟩ := info_parts mark_info
  obtain ⟨j0, ji, jz0, jz1, jz2⟩ := info_parts edit_info
  obtain ⟨A1, c1, rfl, hl1, hc1, hr1⟩ := h1
  obtain ⟨A2, c2, rfl, hl2, hc2, hr2⟩ := h2
  go_enter Try.func30, Try.ntmps30
  go_wp2_with (at_builtin; refine wpList_append_any _ rfl (.const (.slice none 0 0)) (.tmp 14) _ rfl w.heap.size 58 i0 _ 2 16 Try.underlying53 hi hz0 hz1 hz2 rfl (by decide) (.slice none 0 0) 0 [] rfl (World.ownsRow_nil _ _ _ _) w.heap.size A1 ms.length c1 (cellsOf mkc ms) rfl hr1 (cellsOf_oneCell mkc_one ms) (by unfold maxLen; omega) (by omega) (Nat.le_refl _) ?_)
  intro v3 w1 o1 hg1 _
  have k1 : Below w.heap.size w w1 := (Below.refl _ _).grown hg1 (Nat.le_refl _) (by simp [Value.ownBlock])
  have hr2' := (hr2.below k1).more k1.size
  clear hg1
  go_wp2_with (at_builtin; refine wpList_append_any _ rfl (.const (.slice none 0 0)) (.tmp 16) _ rfl w1.heap.size 61 j0 _ 3 32 Try.underlying46 ji jz0 jz1 jz2 rfl (by decide) (.slice none 0 0) 0 [] rfl (World.ownsRow_nil _ _ _ _) w1.heap.size A2 es.length c2 (edCells es) rfl hr2' (edCells_one es) (by unfold maxLen; omega) (by omega) (Nat.le_refl _) ?_)
  intro v4 w2 o2 hg2 _
  have hb2 : Below w1.heap.size w1 w2 := (Below.refl _ _).grown hg2 (Nat.le_refl _) (by simp [Value.ownBlock])
  have o1' := own_below o1 hb2
  have k2 := bstep k1 hb2
  have he2 := EdRow.of_own o2
  clear hg2 o1 hr2' hr1 hr2 hb2 k1 o2
  go_wp2_with fail
  refine (move_any n v3 v4 ms es _ _ o1' he2 hn hm hml hl hput ho).mono ?_
  rintro e w3 ⟨v5, rfl, o3, hb3⟩
  have k3 := bstep k2 hb3
  have r3 := CRow.of_own mkc_len (show w3.ownsRow _ _ 2 v5 (ms.map (mvs es)).length _ by rw [List.length_map]; exact o3)
  obtain ⟨A5, c5, hv5, hl5, hc5, -⟩ := id r3
  clear o3 o1' he2 hb3 k2
  subst hv5
  have hlm : (ms.map (mvs es)).length = ms.length := List.length_map _
  have R3 := Lib.hid r3
  clear r3
  rw [hlm]
  have M1 := (World.ownsRow_lit (base := 0) (e := 58) (size := 2) w3 #[.int .i64 2, .bool false] 1 (Nat.zero_le _) (by decide) rfl)
  have E1 := EdRow.lit (w3.alloc (.cells #[.int .i64 2, .bool false] 58)) 61 [⟨0, 0, ⟨#[97, 98]⟩⟩] (by decide)
  have hs3 : (w3.alloc (.cells #[.int .i64 2, .bool false] 58)).heap.size = w3.heap.size + 1 := by simp
  rw [hs3] at E1
  have ecl : edCells [⟨0, 0, ⟨#[97, 98]⟩⟩] = [.int .i64 0, .int .i64 0, .string ⟨#[97, 98]⟩] := rfl
  rw [ecl] at E1
  have MV := Lib.hid (move_any 3 _ _ [⟨2, false⟩] [⟨0, 0, ⟨#[97, 98]⟩⟩] _ 0 (M1.alloc _) E1 (by omega) (by intro m h; simp at h; subst h; decide) (by decide) (by decide) (by intro e h; simp at h; subst h; decide) ⟨by decide, by decide, trivial⟩)
  clear M1 E1
  go_wp2_with fail
  refine MV.out.mono ?_
  rintro e w4 ⟨v6, rfl, o4, hb4⟩
  clear MV
  obtain ⟨g, cap, hv, hg, hlt⟩ := o4.form (by decide)
  subst hv
  have hx : w4.cell? ⟨g, 0, none⟩ = some (.int .i64 4) := by
    have := o4.cellAt 0 (by decide); exact this
  have r4 := (R3.out.later (by exact (Below.refl w3.heap.size w3).alloc (Nat.le_refl _) _)).later ((Below.refl _ _).alloc (Nat.le_refl _) _) |>.later hb4
  have k4 := bstep ((k3.alloc k3.size _).alloc (by have := k3.size; simp; omega) _) hb4
  have R4 := Lib.hid r4
  have heq : ((ms.length : Int) == (ms.length : Int)) = true := by simp
  clear r4 R3 o4 hb4
  go_wp2_with fail
  go_quiet (fail)
  go_wp2_with fail
  have r4 := R4.out
  rw [hlm] at r4
  go_ret2
  exact ⟨_, rfl, r4, below_drewN k4 _⟩
end Go.Proofs.Ytafbkdgdhglakaa
