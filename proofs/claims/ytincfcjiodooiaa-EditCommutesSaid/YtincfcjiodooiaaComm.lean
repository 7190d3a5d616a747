/-
  The plain law of two edits that do not clash: either order, the other one turned over it, makes the same text. No function of the program is spoken of here.
-/
import Derived.Test.YtincfcjiodooiaaOverB
namespace Go.Proofs.Ytincfcjiodooiaa
set_option linter.unusedVariables false

theorem mk_noth (s : ByteArray) (p : Nat) (put : ByteArray) (h : p ≤ s.size) (hp : put.size = 0) : mk s ⟨p, 0, put⟩ = s := by
  have hl : put.data.toList = [] := List.eq_nil_of_length_eq_zero (by simpa using hp)
  apply bytes_ext
  rw [mk_list _ _ (by simpa using h)]
  simp [hl]
/-- Two edits, the one ahead of the other. -/
theorem mk_two (s : ByteArray) (p c : Nat) (put : ByteArray) (q d : Nat) (qut : ByteArray) (h : p + c ≤ q) (hq : q + d ≤ s.size) :
    mk (mk s ⟨q, d, qut⟩) ⟨p, c, put⟩ = mk (mk s ⟨p, c, put⟩) ⟨q + put.size - c, d, qut⟩ := by
  have hl : s.data.toList.length = s.size := by simp
  have hpl : put.data.toList.length = put.size := by simp
  have hql : qut.data.toList.length = qut.size := by simp
  apply bytes_ext
  have z1 := mk_size s ⟨q, d, qut⟩ hq
  have z2 := mk_size s ⟨p, c, put⟩ (show p + c ≤ s.size by omega)
  simp only at z1 z2
  rw [mk_list (mk s ⟨q, d, qut⟩) ⟨p, c, put⟩ (by show p + c ≤ _; omega), mk_list (mk s ⟨p, c, put⟩) ⟨q + put.size - c, d, qut⟩ (by show q + put.size - c + d ≤ _; omega), mk_list s ⟨q, d, qut⟩ hq, mk_list s ⟨p, c, put⟩ (show p + c ≤ s.size by omega)]
  simp only
  generalize s.data.toList = l at *
  generalize put.data.toList = u at *
  generalize qut.data.toList = v at *
  rw [← hpl]
  have hlq : q + d ≤ l.length := by omega
  clear hq hl hpl hql
  obtain ⟨a, b, m, e, rfl, ha, hb, hm⟩ : ∃ a b m e : List UInt8, l = a ++ b ++ m ++ e ∧ a.length = p ∧ b.length = c ∧ m.length = q - (p + c) :=
    ⟨l.take p, (l.drop p).take c, (l.drop (p + c)).take (q - (p + c)), l.drop q, by
      have e1 : l.drop q = (l.drop (p + c)).drop (q - (p + c)) := by rw [List.drop_drop]; congr 1; omega
      have e2 : l.drop (p + c) = (l.drop p).drop c := by rw [List.drop_drop]
      rw [e1, List.append_assoc (l.take p ++ (l.drop p).take c), List.take_append_drop, e2, List.append_assoc, List.take_append_drop, List.take_append_drop], by rw [List.length_take]; omega, by rw [List.length_take, List.length_drop]; omega, by rw [List.length_take, List.length_drop]; omega⟩
  subst ha hb
  have hq : q = a.length + b.length + m.length := by omega
  subst hq
  clear hm h
  have t1 : (a ++ b ++ m ++ e).take (a.length + b.length + m.length) = a ++ b ++ m := by
    rw [show a.length + b.length + m.length = (a ++ b ++ m).length by simp [Nat.add_assoc], List.take_left]
  have t2 : (a ++ b ++ m ++ e).drop (a.length + b.length + m.length + d) = e.drop d := by
    rw [show a.length + b.length + m.length + d = (a ++ b ++ m).length + d by simp [Nat.add_assoc], List.drop_append, Nat.add_sub_cancel_left, List.drop_eq_nil_of_le (by omega), List.nil_append]
  have t3 : (a ++ b ++ m ++ e).take a.length = a := by rw [List.append_assoc, List.append_assoc, List.take_left]
  have t4 : (a ++ b ++ m ++ e).drop (a.length + b.length) = m ++ e := by
    rw [show a.length + b.length = (a ++ b).length by simp, List.append_assoc (a ++ b), List.drop_left]
  rw [t1, t2, t3, t4]
  have t5 : (a ++ b ++ m ++ v ++ e.drop d).take a.length = a := by rw [List.append_assoc, List.append_assoc, List.append_assoc, List.take_left]
  have t6 : (a ++ b ++ m ++ v ++ e.drop d).drop (a.length + b.length) = m ++ v ++ e.drop d := by
    rw [show a.length + b.length = (a ++ b).length by simp, List.append_assoc, List.append_assoc (a ++ b), List.drop_left, List.append_assoc]
  have e3 : a.length + b.length + m.length + u.length - b.length = (a ++ u ++ m).length := by simp; omega
  have t7 : (a ++ u ++ (m ++ e)).take (a.length + b.length + m.length + u.length - b.length) = a ++ u ++ m := by
    rw [e3, ← List.append_assoc, List.take_left]
  have t8 : (a ++ u ++ (m ++ e)).drop (a.length + b.length + m.length + u.length - b.length + d) = e.drop d := by
    rw [e3, ← List.append_assoc, List.drop_append, Nat.add_sub_cancel_left, List.drop_eq_nil_of_le (by omega), List.nil_append]
  rw [t5, t6, t7, t8]
  simp only [List.append_assoc]

theorem commutes (s : ByteArray) (x y : Ed) (hx : x.p + x.c ≤ s.size) (hy : y.p + y.c ≤ s.size) (h : ¬ clash x y) : mk (mk s y) (ovr x y) = mk (mk s x) (ovr y x) := by
  obtain ⟨p, c, put⟩ := x
  obtain ⟨q, d, qut⟩ := y
  have i1 := ovr_in s.size ⟨p, c, put⟩ ⟨q, d, qut⟩ hx hy h
  have i2 := ovr_in s.size ⟨q, d, qut⟩ ⟨p, c, put⟩ hy hx (fun h2 => h ((clash_comm _ _).1 h2))
  simp only at hx hy
  unfold clash noth wi at h
  simp only at h
  have g1 := gt_asym put qut
  have g2 := gt_none put qut
  unfold ovr at *
  simp only at i1 i2 ⊢
  by_cases n1 : c = 0 ∧ put.size = 0
  · obtain ⟨rfl, n1⟩ := n1
    rw [mk_noth s p put (by omega) n1]
    have e2 : mv p 0 put.size q (rt ⟨q, d, qut⟩ ⟨p, 0, put⟩) = q := by
      unfold mv; rw [n1]; repeat' split
      all_goals omega
    rw [e2, mk_noth _ _ _ (by rw [mk_size _ _ (by simpa using hy)]; simp at i1 ⊢; omega) n1]
  · by_cases n2 : d = 0 ∧ qut.size = 0
    · obtain ⟨rfl, n2⟩ := n2
      rw [mk_noth s q qut (by omega) n2]
      have e2 : mv q 0 qut.size p (rt ⟨p, c, put⟩ ⟨q, 0, qut⟩) = p := by
        unfold mv; rw [n2]; repeat' split
        all_goals omega
      rw [e2, mk_noth _ _ _ (by rw [mk_size _ _ (by simpa using hx)]; simp at i2 ⊢; omega) n2]
    · have hd : p + c ≤ q ∨ q + d ≤ p := by omega
      by_cases hpq : p = q
      · subst hpq
        by_cases hc : c = 0
        · subst hc
          by_cases hd0 : d = 0
          · subst hd0
            have r1 : rt ⟨p, 0, put⟩ ⟨p, 0, qut⟩ = gt put qut := by simp [rt]
            have r2 : rt ⟨p, 0, qut⟩ ⟨p, 0, put⟩ = gt qut put := by simp [rt]
            rw [r1, r2]
            cases h1 : gt put qut with
            | true =>
              rw [g1 h1]
              have e1 : mv p 0 qut.size p true = p + qut.size := by simp [mv]
              have e2 : mv p 0 put.size p false = p := by simp [mv]
              rw [e1, e2, mk_two s p 0 qut p 0 put (by omega) (by omega)]
              simp
            | false =>
              cases h2 : gt qut put with
              | true =>
                have e1 : mv p 0 qut.size p false = p := by simp [mv]
                have e2 : mv p 0 put.size p true = p + put.size := by simp [mv]
                rw [e1, e2, mk_two s p 0 put p 0 qut (by omega) (by omega)]
                simp
              | false =>
                rw [g2 h1 h2]
          · have r1 : rt ⟨p, 0, put⟩ ⟨p, d, qut⟩ = false := by simp [rt, hd0]
            have r2 : rt ⟨p, d, qut⟩ ⟨p, 0, put⟩ = true := by simp [rt]; omega
            rw [r1, r2]
            have e1 : mv p d qut.size p false = p := by simp [mv, hd0]; omega
            have e2 : mv p 0 put.size p true = p + put.size := by simp [mv]
            rw [e1, e2, mk_two s p 0 put p d qut (by omega) (by omega)]
            simp
        · have hd0 : d = 0 := by omega
          subst hd0
          have r1 : rt ⟨p, c, put⟩ ⟨p, 0, qut⟩ = true := by simp [rt]; omega
          have r2 : rt ⟨p, 0, qut⟩ ⟨p, c, put⟩ = false := by simp [rt, hc]
          rw [r1, r2]
          have e1 : mv p 0 qut.size p true = p + qut.size := by simp [mv]
          have e2 : mv p c put.size p false = p := by simp [mv, hc]; omega
          rw [e1, e2, mk_two s p 0 qut p c put (by omega) (by omega)]
          simp
      · rcases hd with hd | hd
        · have e1 : ∀ r, mv q d qut.size p r = p := fun r => by unfold mv; rw [if_pos (by omega)]
          have e2 : ∀ r, mv p c put.size q r = q + put.size - c := fun r => by unfold mv; rw [if_neg (by omega), if_pos (by omega)]
          rw [e1, e2, mk_two s p c put q d qut hd hy]
        · have e1 : ∀ r, mv p c put.size q r = q := fun r => by unfold mv; rw [if_pos (by omega)]
          have e2 : ∀ r, mv q d qut.size p r = p + qut.size - d := fun r => by unfold mv; rw [if_neg (by omega), if_pos (by omega)]
          rw [e1, e2, mk_two s q d qut p c put hd hx]
end Go.Proofs.Ytincfcjiodooiaa
