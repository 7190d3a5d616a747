/-
  Plain laws of what the log's reader reads: a byte that is changed is seen, and what is read is what is saved of it.
-/
import Derived.Test.YtegobmlbldabbaaLogP
namespace Go.Proofs.Ytegobmlbldabbaa
set_option linter.unusedVariables false

theorem tk_inv (n : Nat) (st : St) (h : (tk n st).2.bad = false) : st.left = (tk n st).1 ++ (tk n st).2.left ∧ (tk n st).1.length = n := by
  have hb := tk_keep n st h
  by_cases hc : st.left.length < n
  · have : (tk n st).2.bad = true := by unfold tk; rw [if_pos (.inr hc)]
    rw [this] at h; cases h
  · have e : tk n st = (st.left.take n, ⟨st.left.drop n, false⟩) := by
      unfold tk; rw [if_neg]; rintro (h | h)
      · rw [hb] at h; cases h
      · omega
    rw [e]
    simp only
    exact ⟨(List.take_append_drop _ _).symm, by rw [List.length_take]; omega⟩
theorem u8_ext {a b : UInt8} (h : a.toNat = b.toNat) : a = b := UInt8.toNat_inj.1 h
theorem rnum_inv (st : St) (h : (rnum st).2.bad = false) : st.left = num (rnum st).1 ++ (rnum st).2.left := by
  obtain ⟨a, b⟩ := tk_inv 2 st h
  have e : (rnum st).2.left = (tk 2 st).2.left := rfl
  have e2 : (rnum st).1 = ((tk 2 st).1.getD 0 0).toNat * 256 + ((tk 2 st).1.getD 1 0).toNat := rfl
  rw [e, e2]
  match hm : (tk 2 st).1, b with
  | [x, y], _ =>
    rw [hm] at a
    rw [a]
    simp only [List.getD_cons_zero, List.getD_cons_succ]
    have hx := x.toNat_lt
    have hy := y.toNat_lt
    have e3 : num (x.toNat * 256 + y.toNat) = [x, y] := by
      have h1 : UInt8.ofNat ((x.toNat * 256 + y.toNat) / 256) = x := u8_ext (by simp only [UInt8.toNat_ofNat']; omega)
      have h2 : UInt8.ofNat (x.toNat * 256 + y.toNat) = y := u8_ext (by simp only [UInt8.toNat_ofNat']; omega)
      simp only [num, h1, h2]
    rw [e3]
theorem rtxt_inv (st : St) (h : (rtxt st).2.bad = false) : st.left = num (rtxt st).1.length ++ ((rtxt st).1 ++ (rtxt st).2.left) := by
  have h1 := tk_keep _ _ h
  have a := rnum_inv st h1
  obtain ⟨b, c⟩ := tk_inv _ _ h
  have e : (rtxt st).1.length = (rnum st).1 := c
  rw [e, a]
  congr 1
theorem rtxt_num (st : St) (h : (rtxt st).2.bad = false) : (rtxt st).1.length < 65536 := by
  obtain ⟨b, c⟩ := tk_inv _ _ h
  have e : (rtxt st).1.length = (rnum st).1 := c
  rw [e]; exact rnum_lt st
theorem rdeed_inv (st : St) (h : (rdeed st).2.bad = false) : st.left = dby (rdeed st).1 ++ (rdeed st).2.left := by
  have h1 : (tk 1 st).2.bad = false := by
    cases hb : (tk 1 st).2.bad with
    | false => rfl
    | true =>
      have : (rdeed st).2.bad = true := by
        unfold rdeed; simp only; split
        · exact rtxt_bad _ (rnum_bad _ (rnum_bad _ hb))
        · exact hb
      rw [this] at h; cases h
  obtain ⟨a, b⟩ := tk_inv 1 st h1
  match hm : (tk 1 st).1, b with
  | [x], _ =>
    rw [hm] at a
    unfold rdeed at h ⊢
    simp only at h ⊢
    rw [hm] at h ⊢
    simp only [List.getD_cons_zero] at h ⊢
    have hx : UInt8.ofNat x.toNat = x := u8_ext (by simp)
    by_cases hk : x.toNat = 1
    · rw [if_pos hk] at h ⊢
      simp only at h ⊢
      have f2 : (rnum (rnum (tk 1 st).2).2).2.bad = false := tk_keep _ _ (tk_keep _ _ h)
      have f1 := tk_keep _ _ f2
      have c1 := rnum_inv _ f1
      have c2 := rnum_inv _ f2
      have c3 := rtxt_inv _ h
      have e : (⟨(rtxt (rnum (rnum (tk 1 st).2).2).2).1.toArray⟩ : ByteArray).size = (rtxt (rnum (rnum (tk 1 st).2).2).2).1.length := by simp [ByteArray.size]
      simp only [dby, hk, if_true, e]
      rw [a, c1, c2]
      conv => lhs; rw [c3]
      rw [← hk, hx]
      simp
    · rw [if_neg hk] at h ⊢
      simp only [dby, if_neg hk, hx]
      rw [a]
theorem rdeeds_inv (n : Nat) : ∀ st : St, (rdeeds n st).2.bad = false → (rdeeds n st).1.length = n ∧ st.left = (rdeeds n st).1.flatMap dby ++ (rdeeds n st).2.left := by
  induction n with
  | zero => intro st _; exact ⟨rfl, by simp [rdeeds]⟩
  | succ n ih =>
    intro st h
    have hb : st.bad = false := by
      cases hb : st.bad with
      | false => rfl
      | true => rw [rdeeds_bad _ _ hb] at h; cases h
    simp only [rdeeds, hb, if_neg (show ¬ (false = true) by decide)] at h ⊢
    obtain ⟨a, b⟩ := ih _ h
    have hd : (rdeed st).2.bad = false := by
      cases hc : (rdeed st).2.bad with
      | false => rfl
      | true => rw [rdeeds_bad _ _ hc] at h; cases h
    refine ⟨by simp only [List.length_cons, a], ?_⟩
    have c := rdeed_inv st hd
    rw [c]
    conv => lhs; rw [b]
    simp
theorem body_inv (body : List UInt8) (h : GoodB body) : body = encB ⟨(txt0 body).1.toArray⟩ (deeds0 body).1 := by
  obtain ⟨h1, h2, h3, h4⟩ := h
  have n1 : (num0 body).2.bad = false := by
    cases hb : (num0 body).2.bad with
    | false => rfl
    | true => unfold deeds0 at h1; rw [rdeeds_bad _ _ hb] at h1; cases h1
  have t1 : (txt0 body).2.bad = false := tk_keep _ _ n1
  have a := rtxt_inv _ t1
  have b := rnum_inv _ n1
  obtain ⟨c1, c2⟩ := rdeeds_inv _ _ h1
  have a' : body.drop 4 = num (txt0 body).1.length ++ ((txt0 body).1 ++ (txt0 body).2.left) := a
  have b' : (txt0 body).2.left = num (num0 body).1 ++ (num0 body).2.left := b
  have c1' : (deeds0 body).1.length = (num0 body).1 := c1
  have c2' : (num0 body).2.left = (deeds0 body).1.flatMap dby ++ (deeds0 body).2.left := c2
  rw [encB_parts]
  simp only [List.append_nil]
  rw [c1', ← h3]
  rw [h2, List.append_nil] at c2'
  rw [← c2', ← b', ← a']
  exact (List.take_append_drop 4 body).symm
theorem lsum4 (a b c d : UInt8) : lsum [a, b, c, d] = a.toNat * 16777216 + b.toNat * 65536 + c.toNat * 256 + d.toNat := by
  simp only [lsum, List.foldl_cons, List.foldl_nil]; omega
theorem sum4_lsum (x : List UInt8) (h : x.length = 4) : sum4 (lsum x) = x := by
  match x, h with
  | [a, b, c, d], _ =>
    have ha := a.toNat_lt
    have hb := b.toNat_lt
    have hc := c.toNat_lt
    have hd := d.toNat_lt
    rw [lsum4]
    have h1 : UInt8.ofNat ((a.toNat * 16777216 + b.toNat * 65536 + c.toNat * 256 + d.toNat) / 16777216) = a := u8_ext (by simp only [UInt8.toNat_ofNat']; omega)
    have h2 : UInt8.ofNat ((a.toNat * 16777216 + b.toNat * 65536 + c.toNat * 256 + d.toNat) / 65536) = b := u8_ext (by simp only [UInt8.toNat_ofNat']; omega)
    have h3 : UInt8.ofNat ((a.toNat * 16777216 + b.toNat * 65536 + c.toNat * 256 + d.toNat) / 256) = c := u8_ext (by simp only [UInt8.toNat_ofNat']; omega)
    have h4 : UInt8.ofNat (a.toNat * 16777216 + b.toNat * 65536 + c.toNat * 256 + d.toNat) = d := u8_ext (by simp only [UInt8.toNat_ofNat']; omega)
    simp only [sum4, h1, h2, h3, h4]
theorem load_c (b : List UInt8) : (load b).c = 0 ∨ load b = none_ 4 ∨ load b = none_ 5 ∨ load b = none_ 6 := by
  unfold load loadB
  split
  · exact .inr (.inr (.inl rfl))
  · split
    · exact .inr (.inr (.inr rfl))
    · split
      · exact .inl rfl
      · exact .inr (.inl rfl)
theorem load_inv (b : List UInt8) (h : (load b).c = 0) : OKF (load b).s (load b).l ∧ b = enc (load b).s (load b).l := by
  unfold load loadB at h ⊢
  by_cases h1 : b.length < 12
  · rw [if_pos h1] at h; cases h
  · rw [if_neg h1] at h ⊢
    by_cases h2 : hv (b.take (b.length - 4)) ≠ (lsum (b.drop (b.length - 4)) : Int)
    · rw [if_pos h2] at h; cases h
    · rw [if_neg h2] at h ⊢
      by_cases h3 : GoodB (b.take (b.length - 4))
      · rw [if_pos h3]
        refine ⟨h3.2.2.2, ?_⟩
        simp only
        have e := body_inv _ h3
        have h4 : hv (b.take (b.length - 4)) = (lsum (b.drop (b.length - 4)) : Int) := by simpa using h2
        unfold enc
        rw [← e, h4, Int.toNat_natCast, sum4_lsum _ (by rw [List.length_drop]; omega)]
        exact (List.take_append_drop _ b).symm
      · rw [if_neg h3] at h; cases h
theorem hv_one8 (x : UInt8) : hv [x] = (x.toNat : Int) + 1 := by
  have := x.toNat_lt
  simp only [hv, List.foldl]; omega
theorem hv_ne8 (a b : List UInt8) (x y : UInt8) (h : x ≠ y) : hv (a ++ x :: b) ≠ hv (a ++ y :: b) := by
  intro e
  have hx := x.toNat_lt
  have hy := y.toNat_lt
  have hne : x.toNat ≠ y.toNat := fun e => h (u8_ext e)
  have f : ∀ c : UInt8, a ++ c :: b = (a ++ [c]) ++ b := by intro c; simp
  rw [f, f, hv_append _ b, hv_append _ b, hv_append a, hv_append a, hv_one8, hv_one8] at e
  have hs1 : ∀ c : UInt8, hs [c] = 257 := by intro c; rfl
  rw [hs1, hs1] at e
  generalize ha : hv a * 257 = p at e
  have g : ((p + ((x.toNat : Int) + 1)) % 2147483647 - (p + ((y.toNat : Int) + 1)) % 2147483647) * hs b % 2147483647 = 0 := by
    rw [Int.sub_mul]; omega
  have := hs_mul b _ g
  omega
theorem set_split (l : List UInt8) (k : Nat) (x : UInt8) (h : k < l.length) : l = l.take k ++ l[k] :: l.drop (k + 1) ∧ l.set k x = l.take k ++ x :: l.drop (k + 1) := by
  refine ⟨?_, ?_⟩
  · rw [List.getElem_cons_drop]; exact (List.take_append_drop _ _).symm
  · rw [List.set_eq_take_append_cons_drop, if_pos h]
theorem load_changed (s : ByteArray) (l : List Rd) (k : Nat) (x : UInt8) (hk : k < (enc s l).length) (hx : x ≠ (enc s l)[k]) : load ((enc s l).set k x) = none_ 6 := by
  have h8 := encB_len8 s l
  have hh := hv_nat (encB s l)
  have hs4 := sum_back (hv (encB s l)).toNat (by omega)
  by_cases hb : k < (encB s l).length
  · have e : (enc s l).set k x = (encB s l).set k x ++ sum4 (hv (encB s l)).toNat := by
      unfold enc; rw [List.set_append_left _ _ hb]
    have e2 : (enc s l)[k] = (encB s l)[k] := List.getElem_append_left (bs := sum4 (hv (encB s l)).toNat) hb
    rw [e2] at hx
    rw [e, load_split _ _ rfl (by rw [List.length_set]; exact h8), if_pos]
    rw [hs4, hh.1]
    obtain ⟨a, b⟩ := set_split (encB s l) k x hb
    rw [b]
    conv => rhs; rhs; rw [a]
    exact hv_ne8 _ _ _ _ hx
  · have hlen : (enc s l).length = (encB s l).length + 4 := by unfold enc; rw [List.length_append]; rfl
    have e : (enc s l).set k x = encB s l ++ (sum4 (hv (encB s l)).toNat).set (k - (encB s l).length) x := by
      unfold enc; rw [List.set_append_right _ _ (by omega)]
    have e2 : (enc s l)[k] = (sum4 (hv (encB s l)).toNat)[k - (encB s l).length]'(by rw [show (sum4 (hv (encB s l)).toNat).length = 4 from rfl]; omega) := List.getElem_append_right (bs := sum4 (hv (encB s l)).toNat) (Nat.le_of_not_lt hb)
    rw [e2] at hx
    rw [e, load_split _ _ (by rw [List.length_set]; rfl) h8, if_pos]
    intro hc
    have e3 : lsum ((sum4 (hv (encB s l)).toNat).set (k - (encB s l).length) x) = (hv (encB s l)).toNat := by omega
    have e4 := sum4_lsum ((sum4 (hv (encB s l)).toNat).set (k - (encB s l).length) x) (by rw [List.length_set]; rfl)
    rw [e3] at e4
    have e5 : k - (encB s l).length < (sum4 (hv (encB s l)).toNat).length := by rw [show (sum4 (hv (encB s l)).toNat).length = 4 from rfl]; omega
    have e6 : ((sum4 (hv (encB s l)).toNat).set (k - (encB s l).length) x)[k - (encB s l).length]'(by rw [List.length_set]; exact e5) = x := by simp
    refine hx (e6.symm.trans ?_)
    congr 1
    exact e4.symm
end Go.Proofs.Ytegobmlbldabbaa
