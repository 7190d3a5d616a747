/-
  The walk of the law TopHistory: whatever its input, it returns true and changes nothing that was there.
-/
import Derived.Test.YtegobmlbldabbaaLogFixedW
import Derived.Test.YtegobmlbldabbaaSavable
import Derived.Test.YtegobmlbldabbaaInv
import Derived.BigQuiet
import Derived.Deep.QuietTactic
namespace Go.Proofs.Ytegobmlbldabbaa
open Go.RowKit
set_option linter.unusedVariables false

set_option maxHeartbeats 1000000 in
theorem topTexts_any (va vb : Value) (a b : List ByteArray) (w : World) (ha : SRow w va a) (hb : SRow w vb b) :
    Calls Try.prog 33 #[va, vb] w fun e w' => e = .returned (.bool (decide (a = b))) ∧ Below w.heap.size w w' := by
  obtain ⟨A0, c0, rfl, hl0, hc0, hr0⟩ := ha
  obtain ⟨A1, c1, rfl, hl1, hc1, hr1⟩ := hb
  unfold maxLen at hc0 hc1
  have hne : a.length ≠ b.length → decide (a = b) = false := by
    intro h
    have : ¬ a = b := fun e => h (by rw [e])
    simp [this]
  go_enter Try.func33, Try.ntmps33
  by_cases hll : a.length = b.length
  · have hlb : ((a.length : Int) != (b.length : Int)) = false := by simp [hll]
    have hll2 := Lib.hid hll
    clear hll hne
    go_wp2
    clear hlb
    go_loopw [5] (fun i wr => ∃ k : Nat, k ≤ a.length ∧ i = .int .i64 k ∧ (∀ j, j < k → a[j]? = b[j]?) ∧ Below w.heap.size w wr) (fun i _ => a.length - (intOf i).toNat)
    case atStart => exact ⟨0, Nat.zero_le _, rfl, fun j h => by omega, Below.refl _ _⟩
    case round =>
      obtain ⟨k, hk, rfl, heq, hbel⟩ := hrel
      by_cases hlt : k < a.length
      · have hlt2 : k < b.length := by have := hll2.out; omega
        obtain ⟨b0, o0, rfl, _, hcell0⟩ := SRow.at_ (hr0.below hbel) hlt
        obtain ⟨b1, o1, rfl, _, hcell1⟩ := SRow.at_ (hr1.below hbel) hlt2
        by_cases hs : a[k] = b[k]
        · have H := Lib.hid heq
          have H2 := Lib.hid (show a[k]? = b[k]? by simp [hlt, hlt2, hs])
          clear heq
          rw [← hs] at hcell1
          generalize a[k] = s at *
          have hq : (s.toList == s.toList) = true := bytes_eq rfl
          go_wp2_with fail
          go_quiet (fail)
          go_wp2_with fail
          go_roundw
          case rel =>
            refine ⟨k + 1, by omega, by go_num, fun j hj => ?_, below_drewN hbel _⟩
            by_cases e : j = k
            · subst e; exact H2.out
            · exact H.out j (by omega)
          case measure => simp [intOf]; omega
        · have H2 := Lib.hid (show decide (a = b) = false by
            have : ¬ a = b := fun e => hs (by subst e; rfl)
            simp [this])
          clear heq
          have hq := bytes_ne hs
          generalize a[k] = s at *
          generalize b[k] = t at *
          go_wp2_with fail
          go_quiet (fail)
          go_wp2_with fail
          go_ret
          exact ⟨by rw [H2.out]; rfl, below_drewN hbel _⟩
      · have H2 := Lib.hid (show decide (a = b) = true by
          have : a = b := List.ext_getElem? fun j => by
            by_cases hj : j < k
            · exact heq j hj
            · have := hll2.out
              rw [List.getElem?_eq_none (by omega), List.getElem?_eq_none (by omega)]
          simp [this])
        clear heq
        go_wp2
        go_ret
        exact ⟨by rw [H2.out]; rfl, hbel⟩
  · have H := Lib.hid (hne hll)
    clear hne
    go_wp2
    go_ret
    exact ⟨by rw [H.out]; rfl, Below.refl _ _⟩


theorem chk_of {t : ByteArray} {e : Ed} (h : okr t.size [e]) : chk t.size e = 0 := by
  obtain ⟨h1, h2, _⟩ := h
  unfold chk
  rw [if_neg (by omega), if_neg (by omega)]
theorem after_do (s : ByteArray) (e : Ed) (es : List Ed) (h : okr s.size (es ++ [e])) :
    after (h0s s) ((es ++ [e]).map .do_) = ⟨rn s (es ++ [e]), [⟨es ++ [e], bk s (es ++ [e])⟩], [], true⟩ := by
  induction es using snoc_ind generalizing e with
  | h0 =>
    have hc : chk (h0s s).text.size e = 0 := chk_of h
    show (deed (h0s s) (.do_ e)).1 = _
    simp only [deed, hc, if_true]
    have ho : opened (h0s s) = [] ++ [⟨[], []⟩] := rfl
    rw [ho, addTo_snoc]
    rfl
  | h1 l d ih =>
    have h' := (okr_append (l ++ [d]) [e] s.size).1 h
    rw [List.map_append, after_append, ih d h'.1]
    have hsz := rn_size (l ++ [d]) s h'.1
    have hc : chk (rn s (l ++ [d])).size e = 0 := chk_of (by rw [hsz]; exact h'.2)
    show (deed _ (.do_ e)).1 = _
    simp only [deed, hc, if_true]
    have ho : opened ⟨rn s (l ++ [d]), [⟨l ++ [d], bk s (l ++ [d])⟩], [], true⟩ = [] ++ [⟨l ++ [d], bk s (l ++ [d])⟩] := rfl
    rw [ho, addTo_snoc, rn_append _ [e], bk_append _ [e]]
    rfl
theorem th_texts (s : ByteArray) (es : List Ed) (hs : s.size ≤ 600) (h : okr s.size es) :
    ((play (h0s s) (es.map .do_ ++ [.undo])).2.1).length = es.length + 1 ∧ (0 < es.length → ((play (h0s s) (es.map .do_ ++ [.undo])).2.1)[es.length - 1]? = some (rn s es) ∧ ((play (h0s s) (es.map .do_ ++ [.undo])).2.1)[es.length]? = some s) := by
  have hl := (play_len (es.map Dd.do_ ++ [.undo]) (h0s s)).1
  refine ⟨by rw [hl]; simp, fun hp => ?_⟩
  rcases List.eq_nil_or_concat es with rfl | ⟨l, e, rfl⟩
  · simp at hp
  · rw [List.concat_eq_append] at *
    have ha := after_do s e l h
    have hb := back_rn (l ++ [e]) s hs h
    have e1 : (play (h0s s) ((l ++ [e]).map .do_ ++ [.undo])).2.1 = (play (h0s s) ((l ++ [e]).map .do_)).2.1 ++ [s] := by
      rw [play_append, ha]
      show _ ++ [(deed ⟨rn s (l ++ [e]), [⟨l ++ [e], bk s (l ++ [e])⟩], [], true⟩ .undo).1.text] = _
      rw [show (deed ⟨rn s (l ++ [e]), [⟨l ++ [e], bk s (l ++ [e])⟩], [], true⟩ .undo).1.text = rn (rn s (l ++ [e])) (bk s (l ++ [e])).reverse from rfl, hb.2]
    have e2 : (play (h0s s) ((l ++ [e]).map .do_)).2.1 = (play (h0s s) (l.map .do_)).2.1 ++ [rn s (l ++ [e])] := by
      rw [List.map_append, play_append]
      show _ ++ [(deed (after (h0s s) (l.map .do_)) (.do_ e)).1.text] = _
      have h3 : (deed (after (h0s s) (l.map .do_)) (.do_ e)).1 = after (h0s s) ((l ++ [e]).map .do_) := by
        rw [List.map_append, after_append]; rfl
      rw [h3, ha]
    have l1 := (play_len (l.map Dd.do_) (h0s s)).1
    rw [List.length_map] at l1
    rw [e1, e2]
    refine ⟨?_, ?_⟩
    · rw [List.getElem?_append_left (by simp; omega), List.getElem?_append_right (by simp; omega)]
      simp [l1]
    · rw [List.getElem?_append_right (by simp; omega)]
      simp [l1]
theorem vld_put8 (l : List Ed) : ∀ n, vld n l → ∀ e ∈ l, e.put.size ≤ 8 ∧ e.c ≤ 12 := by
  induction l with
  | nil => intro n _ e he; simp at he
  | cons d l ih =>
    intro n h e he
    obtain ⟨h1, h2, h3, h4⟩ := h
    rcases List.mem_cons.1 he with rfl | he
    · exact ⟨h3, h2⟩
    · exact ih _ h4 e he
theorem okr_p (l : List Ed) : ∀ n, n ≤ 600 → okr n l → ∀ e ∈ l, e.p ≤ 600 := by
  induction l with
  | nil => intro n _ _ e he; simp at he
  | cons d l ih =>
    intro n hn h e he
    obtain ⟨h1, h2, h3⟩ := h
    rcases List.mem_cons.1 he with rfl | he
    · omega
    · exact ih _ h2 h3 e he
def moreD (es : List Ed) : List Dd := es.map .do_ ++ [.undo]
theorem moreD_len (es : List Ed) : (moreD es).length = es.length + 1 := by simp [moreD]
theorem moreD_sm (es : List Ed) (n m : Nat) (hn : n ≤ 600) (h : okr n es) (hv : vld m es) : ∀ d ∈ moreD es, dSm 600 d := by
  intro d hd
  rcases List.mem_append.1 hd with hd | hd
  · obtain ⟨e, he, rfl⟩ := List.mem_map.1 hd
    have h1 := vld_put8 es m hv e he
    exact ⟨okr_p es n hn h e he, by omega, h1.1⟩
  · simp at hd; subst hd; trivial
theorem dOk_of_sm (d : Dd) (n : Nat) (hn : n ≤ 100000) (h : dSm n d) : dOk d := by
  cases d with
  | do_ e => obtain ⟨h1, h2, h3⟩ := h; exact ⟨by omega, by omega, by omega⟩
  | close => trivial
  | undo => trivial
  | redo => trivial
end Go.Proofs.Ytegobmlbldabbaa
