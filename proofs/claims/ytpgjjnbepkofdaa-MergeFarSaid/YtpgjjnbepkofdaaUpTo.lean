/-
  The walks of merge's upTo and made.
-/
import Derived.Test.YtpgjjnbepkofdaaHunks
namespace Go.Proofs.Ytpgjjnbepkofdaa
open Go.RowKit
set_option linter.unusedVariables false
set_option linter.unusedSimpArgs false

theorem off_cell {W : World} {B g o n cap : Nat} {e : TypeId} {l : List HV} (h : OffRow W B e 3 (.slice (some ⟨g, o, none⟩) n cap) l.length (cellsOf hvc l)) (k : Nat) (hk : k < l.length) (i : Nat) (hi : i < 3) (u : Value) (hu : (hvc l[k])[i]? = some u) : W.cell? ⟨g, o + k * 3 + i, none⟩ = some u := by
  obtain ⟨g', o', cap', e1, _, _, _, _, _, hc, _⟩ := h.form (by omega)
  injection e1 with e1 _ _
  injection e1 with e1
  injection e1 with e3 e4 _
  subst e3; subst e4
  have h1 := cellsOf_at hvc_len l k hk i hi
  rw [hu] at h1
  have := hc _ _ h1
  rwa [← Nat.add_assoc] at this
theorem upTo_drop (l : List (Hk ByteArray)) (k hi hk n H : Nat) (hlt : k < l.length) (he : (n, H) = ((upTo (l.drop k) hk).1 + k, (upTo (l.drop k) hk).2)) :
    if l[k].lo ≤ hk then (n, H) = ((upTo (l.drop (k + 1)) (max hk l[k].hi)).1 + (k + 1), (upTo (l.drop (k + 1)) (max hk l[k].hi)).2) else n = k ∧ H = hk := by
  rw [List.drop_eq_getElem_cons hlt, upTo_cons] at he
  split
  · rename_i q
    rw [if_pos q] at he
    rw [he]; simp only [Prod.mk.injEq, and_true]; omega
  · rename_i q
    rw [if_neg q] at he
    injection he with e1 e2
    simp only at e1 e2
    exact ⟨by omega, e2⟩
theorem off_block_take {A : Option Addr} {n c k : Nat} : ∀ g, offBlock (.slice A k c) = some g → offBlock (.slice A n c) = some g := by
  intro g h
  cases A with
  | none => simp [offBlock] at h
  | some a => cases c with
    | zero => simp [offBlock] at h
    | succ d => exact h
theorem off_block_drop {g o o2 n c k m : Nat} : ∀ g', offBlock (.slice (some ⟨g, o2, none⟩) k (c - n)) = some g' → offBlock (.slice (some ⟨g, o, none⟩) m c) = some g' := by
  intro g' h
  cases c with
  | zero => simp [offBlock] at h
  | succ c => cases hc : c + 1 - n with
    | zero => rw [hc] at h; simp [offBlock] at h
    | succ d => rw [hc] at h; exact h
def UpToPost (B gs : Nat) (v : Value) (l : List HV) (n H : Nat) (W : World) (e : Ending) (w' : World) : Prop :=
  ∃ (vp v' : Value) (q : Nat), e = .returned (.tuple #[vp, .int .i64 (H : Int)]) ∧ OffRow W B 147 3 vp n (cellsOf hvc (l.take n)) ∧
    OffRow W B 147 3 v' (l.length - n) (cellsOf hvc (l.drop n)) ∧ (∀ g, offBlock vp = some g → offBlock v = some g) ∧ (∀ g, offBlock v' = some g → offBlock v = some g) ∧ w' = (W.setCell ⟨gs, 0, none⟩ v').drewN q
set_option maxRecDepth 100000 in
set_option maxHeartbeats 4000000 in
theorem upTo_any (B gs : Nat) (v : Value) (l : List HV) (hi : Nat) (W : World) (hb : Blk W gs 121 #[v]) (ho : OffRow W B 147 3 v l.length (cellsOf hvc l)) (hl : l.length ≤ 1000) (hhi : hi ≤ 1000) (hx : ∀ x ∈ l, x.h.lo ≤ 1000 ∧ x.h.hi ≤ 1000) :
    Calls Try.prog 93 #[.pointer (some ⟨gs, 0, none⟩), .int .i64 (hi : Int)] W (UpToPost B gs v l (upTo (l.map HV.h) hi).1 (upTo (l.map HV.h) hi).2 W) := by
  obtain ⟨A, c, rfl, hlc, hcm⟩ := off_slice ho
  unfold maxLen at hcm
  have b0 : W.cell? ⟨gs, 0, none⟩ = some (.slice A l.length c) := hb.cell 0
  have bf := hb.frozen 0
  have HO := Lib.hid ho
  have HX := Lib.hid hx
  obtain ⟨n, hn⟩ : ∃ n, (upTo (l.map HV.h) hi).1 = n := ⟨_, rfl⟩
  obtain ⟨H, hH⟩ : ∃ H, (upTo (l.map HV.h) hi).2 = H := ⟨_, rfl⟩
  have hle := upTo_le (l.map HV.h) hi
  rw [hn, List.length_map] at hle
  have HN : Hid ((n, H) = ((upTo ((l.map HV.h).drop 0) hi).1 + 0, (upTo ((l.map HV.h).drop 0) hi).2)) := Lib.hid (by rw [List.drop_zero, hn, hH]; rfl)
  rw [hn, hH]
  clear hn hH ho hx
  go_enter Try.func93, Try.ntmps93
  go_wp2_with fail
  go_loopw [1, 6] (fun vh vk wr => ∃ k hk q : Nat, k ≤ l.length ∧ hk ≤ 1000 ∧ vh = .int .i64 (hk : Int) ∧ vk = .int .i64 (k : Int) ∧ (n, H) = ((upTo ((l.map HV.h).drop k) hk).1 + k, (upTo ((l.map HV.h).drop k) hk).2) ∧ wr = W.drewN q) (fun _ vk _ => l.length - (intOf vk).toNat)
  case atStart => exact ⟨0, hi, 0, Nat.zero_le _, hhi, rfl, rfl, HN.out, rfl⟩
  case round =>
    obtain ⟨k, hk, q, hkl, hk1, rfl, rfl, hnh, rfl⟩ := hrel
    have HNH := Lib.hid hnh
    clear HN hnh
    by_cases hlt : k < l.length
    · have st := upTo_drop (l.map HV.h) k hi hk n H (by simpa using hlt) HNH.out
      rw [List.getElem_map] at st
      obtain ⟨g, o, hA⟩ : ∃ g o, A = some ⟨g, o, none⟩ := by
        obtain ⟨g', o', cap', e1, _⟩ := HO.out.form (by omega)
        injection e1 with e1 _ _
        exact ⟨g', o', e1⟩
      subst hA
      have d0 := off_cell HO.out k hlt 0 (by decide) _ rfl
      have d1 := off_cell HO.out k hlt 1 (by decide) _ rfl
      have hb2 := HX.out _ (List.getElem_mem hlt)
      simp only [Nat.add_zero] at d0
      generalize l[k].h.lo = lo at *
      generalize l[k].h.hi = hx at *
      have i0 : (0 : Int) ≤ (k : Int) := by omega
      have i1 : (k : Int) < (l.length : Int) := by omega
      by_cases hq : lo ≤ hk
      · rw [if_pos hq] at st
        have ST := Lib.hid st
        clear st
        have t1 : (lo : Int) ≤ (hk : Int) := by omega
        go_wp2_with fail
        exact ⟨⟨k + 1, max hk hx, q, by omega, by omega, by congr 1; split <;> omega, by go_num, ST.out, rfl⟩, by simp [intOf]; omega⟩
      · rw [if_neg hq] at st
        obtain ⟨rfl, rfl⟩ := st
        have t1 : decide ((lo : Int) ≤ (H : Int)) = false := decide_eq_false (by omega)
        have t2 : ¬ (lo : Int) ≤ (H : Int) := by omega
        have hck : ¬ c = n := by omega
        have hck2 : ¬ c - n = 0 := by omega
        have i2 : (n : Int) ≤ (c : Int) := by omega
        have i3 : (n : Int) ≤ (l.length : Int) := by omega
        clear HNH hq
        go_wp2_with fail
        go_ret2
        have h1 := HO.out.take (k := n) (by omega)
        have h2 := HO.out.drop (k := n) (by omega)
        rw [if_neg hck] at h2
        rw [← cellsOf_take hvc_len _ _ (by omega)] at h1
        rw [← cellsOf_drop hvc_len _ _ (by omega)] at h2
        simp only [Option.map_some, add_plain] at h2
        exact ⟨_, _, q, rfl, h1, h2, off_block_take, off_block_drop, rfl⟩
    · obtain rfl : k = l.length := by omega
      have st := HNH.out
      rw [List.drop_eq_nil_of_le (by simp), upTo_nil] at st
      injection st with st1 st2
      simp only [Nat.zero_add] at st1
      have ST1 := Lib.hid st1
      have ST2 := Lib.hid st2
      clear st1 st2
      have h1 := HO.out.take (k := l.length) (by omega)
      have h2 := HO.out.drop (k := l.length) (by omega)
      rw [← cellsOf_take hvc_len _ _ (by omega)] at h1
      rw [← cellsOf_drop hvc_len _ _ (by omega)] at h2
      have HH1 := Lib.hid h1
      have HH2 := Lib.hid h2
      have i2 : (l.length : Int) ≤ (c : Int) := by omega
      clear h1 h2 HNH
      by_cases hck : c = l.length
      · subst hck
        go_wp2_with fail
        go_ret2
        rw [ST1.out, ST2.out]
        have h2 := HH2.out
        simp only [if_true, Nat.sub_self] at h2
        refine ⟨_, _, q, rfl, HH1.out, by rw [Nat.sub_self]; exact h2, off_block_take, (by intro g h; cases A <;> simp [offBlock] at h), ?_⟩
        rfl
      · have hck2 : ¬ c - l.length = 0 := by omega
        obtain ⟨g, o, hA⟩ : ∃ g o, A = some ⟨g, o, none⟩ := by
          rcases HO.out.2 with ⟨h0, A', hv⟩ | ⟨g', o', cap, cur, hv, _⟩
          · injection hv with _ e2 e3
            omega
          · injection hv with e1 _ _
            exact ⟨g', o', e1⟩
        subst hA
        go_wp2_with fail
        go_ret2
        rw [ST1.out, ST2.out]
        have h2 := HH2.out
        rw [if_neg hck, Nat.sub_self] at h2
        simp only [Option.map_some, add_plain] at h2
        exact ⟨_, _, q, rfl, HH1.out, by rw [Nat.sub_self]; exact h2, off_block_take, (by intro g' h; have : c - l.length = c - l.length := rfl; exact off_block_drop (n := l.length) g' h), rfl⟩
end Go.Proofs.Ytpgjjnbepkofdaa
