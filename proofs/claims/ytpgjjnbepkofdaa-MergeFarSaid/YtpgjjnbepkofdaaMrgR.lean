/-
  Plain: what the walk of Merge must know of the parts: where they lie, and how long they are.
-/
import Derived.Test.YtpgjjnbepkofdaaPart
import Derived.Test.YtpgjjnbepkofdaaMade
namespace Go.Proofs.Ytpgjjnbepkofdaa
set_option linter.unusedVariables false

theorem mkOk_of (n H : Nat) (l : List (Hk ByteArray)) (lo : Nat) (hc : Ch l) (hl : ∀ h ∈ l, lo ≤ h.lo ∧ h.hi ≤ H) (hH : H ≤ n) (hlo : lo ≤ H) : MkOk n H l lo := by
  induction l generalizing lo with
  | nil => exact ⟨hlo, hH⟩
  | cons g t ih =>
    obtain ⟨h1, h2⟩ := hl g (by simp)
    have h3 := hc.2 g (by simp)
    have h4 := List.pairwise_cons.1 hc.1
    refine ⟨h1, by omega, ih g.hi ⟨h4.2, fun x hx => hc.2 x (by simp [hx])⟩ (fun x hx => ⟨by have := h4.1 x hx; omega, (hl x (by simp [hx])).2⟩) h2⟩
theorem mkL_len (base : List ByteArray) (H : Nat) (l : List (Hk ByteArray)) (lo : Nat) (hl : ∀ h ∈ l, h.ls.length ≤ 200) (hb : base.length ≤ 100) : (mkL base H l lo).length ≤ l.length * 300 + 100 := by
  induction l generalizing lo with
  | nil => rw [mkL, List.length_drop, List.length_take]; omega
  | cons g t ih =>
    rw [mkL, List.length_append, List.length_append, List.length_drop, List.length_take, List.length_cons]
    have := ih g.hi (fun x hx => hl x (by simp [hx]))
    have := hl g (by simp)
    omega
theorem fst_low (a b : List (Hk ByteArray)) (ca : Ch a) (cb : Ch b) : (∀ h ∈ a, fst a b ≤ h.lo) ∧ ∀ h ∈ b, fst a b ≤ h.lo := by
  have key : ∀ (g : Hk ByteArray) (t : List (Hk ByteArray)), Ch (g :: t) → ∀ h ∈ g :: t, g.lo ≤ h.lo := by
    intro g t c h hh
    rcases List.mem_cons.1 hh with rfl | hh
    · exact Nat.le_refl _
    · have h1 := c.2 g (by simp)
      have := (List.pairwise_cons.1 c.1).1 h hh
      omega
  cases a with
  | nil =>
    refine ⟨by simp, ?_⟩
    cases b with
    | nil => simp
    | cons g t => exact key g t cb
  | cons g t =>
    cases b with
    | nil => exact ⟨key g t ca, by simp⟩
    | cons g' t' =>
      exact ⟨fun h hh => Nat.le_trans (Nat.min_le_left _ _) (key g t ca h hh), fun h hh => Nat.le_trans (Nat.min_le_right _ _) (key g' t' cb h hh)⟩
theorem partN_bound (f : Nat) (a b : List (Hk ByteArray)) (hi M : Nat) (ha : ∀ h ∈ a, h.hi ≤ M) (hb : ∀ h ∈ b, h.hi ≤ M) (hm : hi ≤ M) : (partN f a b hi).2.2 ≤ M :=
  (partN_min f a b hi a.length b.length M ⟨Nat.le_refl _, Nat.le_refl _, hm, fun h hh => ha h (List.mem_of_mem_take hh), fun h hh => hb h (List.mem_of_mem_take hh), fun h t e => by simp at e, fun h t e => by simp at e⟩).2.2
theorem ch_drop {l : List (Hk ByteArray)} (h : Ch l) (k : Nat) : Ch (l.drop k) := ⟨h.1.sublist (List.drop_sublist _ _), fun x hx => h.2 x (List.mem_of_mem_drop hx)⟩
theorem ch_take {l : List (Hk ByteArray)} (h : Ch l) (k : Nat) : Ch (l.take k) := ⟨h.1.sublist (List.take_sublist _ _), fun x hx => h.2 x (List.mem_of_mem_take hx)⟩
/-- Behind what is taken all lies further. -/
theorem ch_after {l : List (Hk ByteArray)} (c : Ch l) (H : Nat) (h : ∀ g t, l = g :: t → H < g.lo) : ∀ x ∈ l, H ≤ x.lo := by
  cases l with
  | nil => simp
  | cons g t =>
    intro x hx
    have h1 := h g t rfl
    rcases List.mem_cons.1 hx with rfl | hx
    · omega
    · have h2 := c.2 g (by simp)
      have := (List.pairwise_cons.1 c.1).1 x hx
      omega
theorem lines_le (base : List ByteArray) (H : Nat) (l : List (Hk ByteArray)) (lo : Nat) : ∀ h ∈ l, h.ls.length ≤ (mkL base H l lo).length := by
  induction l generalizing lo with
  | nil => simp
  | cons g t ih =>
    intro h hh
    rw [mkL, List.length_append, List.length_append]
    rcases List.mem_cons.1 hh with rfl | hh
    · omega
    · have := ih g.hi h hh
      omega
/-- One round of the walk: what a part is, and what is left behind it. -/
structure RoundOk (n : Nat) (a b : List (Hk ByteArray)) (P : Nat × Nat × Nat) (lo : Nat) : Prop where
  na : P.1 ≤ a.length
  nb : P.2.1 ≤ b.length
  some : 0 < P.1 + P.2.1
  ln : lo ≤ P.2.2
  hn : P.2.2 ≤ n
  ma : MkOk n P.2.2 (a.take P.1) lo
  mb : MkOk n P.2.2 (b.take P.2.1) lo
  xa : ∀ x ∈ a.drop P.1, P.2.2 ≤ x.lo
  xb : ∀ x ∈ b.drop P.2.1, P.2.2 ≤ x.lo
theorem round_ok (n : Nat) (a b : List (Hk ByteArray)) (ca : Ch a) (cb : Ch b) (ha : ∀ h ∈ a, h.hi ≤ n) (hb : ∀ h ∈ b, h.hi ≤ n) (h0 : 0 < a.length + b.length) :
    RoundOk n a b (partN (a.length + b.length + 1) a b (fst a b)) (fst a b) := by
  have c := partN_closed (a.length + b.length + 1) a b (fst a b) (by omega)
  have s := partN_some (a.length + b.length + 1) a b (by omega) h0
  obtain ⟨f1, f2⟩ := fst_low a b ca cb
  have hf : fst a b ≤ n := by
    rcases a with _ | ⟨g, t⟩
    · rcases b with _ | ⟨g, t⟩
      · simp at h0
      · have := f2 g (by simp); have := cb.2 g (by simp); have := hb g (by simp); omega
    · have := f1 g (by simp); have := ca.2 g (by simp); have := ha g (by simp); omega
  have hH := partN_bound (a.length + b.length + 1) a b (fst a b) n ha hb hf
  generalize partN (a.length + b.length + 1) a b (fst a b) = P at *
  exact ⟨c.na, c.mb, s, c.le, hH, mkOk_of _ _ _ _ (ch_take ca _) (fun h hh => ⟨f1 h (List.mem_of_mem_take hh), c.ia h hh⟩) hH c.le, mkOk_of _ _ _ _ (ch_take cb _) (fun h hh => ⟨f2 h (List.mem_of_mem_take hh), c.ib h hh⟩) hH c.le,
    ch_after (ch_drop ca _) _ c.xa, ch_after (ch_drop cb _) _ c.xb⟩
end Go.Proofs.Ytpgjjnbepkofdaa
