/-
  Plain laws of what the log's reader reads: what is saved is read again, what is cut off is not, and what is read is what is saved of it.
-/
import Derived.Test.YtegobmlbldabbaaLogL
namespace Go.Proofs.Ytegobmlbldabbaa
set_option linter.unusedVariables false

def rdeeds : Nat → St → List Rd × St
  | 0, st => ([], st)
  | n + 1, st => if st.bad = true then ([], st) else ((rdeed st).1 :: (rdeeds n (rdeed st).2).1, (rdeeds n (rdeed st).2).2)
instance (d : Rd) : Decidable (okd d) := by unfold okd; exact inferInstance
instance (s : ByteArray) (l : List Rd) : Decidable (OKF s l) := by unfold OKF; exact inferInstance
def lsum (b : List UInt8) : Nat := b.foldl (fun s x => s * 256 + x.toNat) 0
structure Ld where
  s : ByteArray
  l : List Rd
  c : Nat
def none_ (c : Nat) : Ld := ⟨⟨#[]⟩, [], c⟩
def txt0 (body : List UInt8) : List UInt8 × St := rtxt ⟨body.drop 4, false⟩
def num0 (body : List UInt8) : Nat × St := rnum (txt0 body).2
def deeds0 (body : List UInt8) : List Rd × St := rdeeds (num0 body).1 (num0 body).2
def GoodB (body : List UInt8) : Prop := (deeds0 body).2.bad = false ∧ (deeds0 body).2.left = [] ∧ body.take 4 = headB ∧ OKF ⟨(txt0 body).1.toArray⟩ (deeds0 body).1
instance (body : List UInt8) : Decidable (GoodB body) := by unfold GoodB; exact inferInstance
def loadB (body : List UInt8) : Ld := if GoodB body then ⟨⟨(txt0 body).1.toArray⟩, (deeds0 body).1, 0⟩ else none_ 4
def load (b : List UInt8) : Ld :=
  if b.length < 12 then none_ 5 else
  if hv (b.take (b.length - 4)) ≠ (lsum (b.drop (b.length - 4)) : Int) then none_ 6 else loadB (b.take (b.length - 4))

theorem tk_good (xs rest : List UInt8) (n : Nat) (h : xs.length = n) : tk n ⟨xs ++ rest, false⟩ = (xs, ⟨rest, false⟩) := by
  unfold tk
  rw [if_neg (by simp; omega)]
  subst h
  simp
theorem num_back (n : Nat) (h : n < 65536) : (UInt8.ofNat (n / 256)).toNat * 256 + (UInt8.ofNat n).toNat = n := by
  simp only [UInt8.toNat_ofNat']; omega
theorem rnum_good (n : Nat) (rest : List UInt8) (h : n < 65536) : rnum ⟨num n ++ rest, false⟩ = (n, ⟨rest, false⟩) := by
  unfold rnum
  rw [tk_good (num n) rest 2 rfl]
  simp only [num, List.getD_cons_zero, List.getD_cons_succ]
  rw [num_back n h]
theorem rtxt_good (s rest : List UInt8) (h : s.length < 65536) : rtxt ⟨num s.length ++ (s ++ rest), false⟩ = (s, ⟨rest, false⟩) := by
  unfold rtxt
  rw [rnum_good _ _ h]
  exact tk_good s rest _ rfl
theorem data_back (s : ByteArray) : (⟨s.data.toList.toArray⟩ : ByteArray) = s := by simp
theorem rdeed_good (d : Rd) (rest : List UInt8) (h : okd d) (h2 : d.put.size ≤ 600) : rdeed ⟨dby d ++ rest, false⟩ = (d, ⟨rest, false⟩) := by
  obtain ⟨k, p, c, put⟩ := d
  obtain ⟨q1, q2, q3, q4, q5⟩ := h
  simp only at q1 q2 q3 q4 q5 h2
  have hk : (UInt8.ofNat k).toNat = k := by simp only [UInt8.toNat_ofNat']; omega
  by_cases h1 : k = 1
  · subst h1
    have hl : put.data.toList.length = put.size := by simp
    have e : dby ⟨1, p, c, put⟩ ++ rest = [UInt8.ofNat 1] ++ (num p ++ (num c ++ (num put.data.toList.length ++ (put.data.toList ++ rest)))) := by
      simp [dby]
    unfold rdeed
    rw [e, tk_good [UInt8.ofNat 1] _ 1 rfl]
    simp only [List.getD_cons_zero, hk, if_true]
    rw [rnum_good p _ (by omega)]
    simp only
    rw [rnum_good c _ (by omega)]
    simp only
    rw [rtxt_good _ _ (by omega), data_back]
  · obtain ⟨rfl, rfl, rfl⟩ := q3 h1
    have e : dby ⟨k, 0, 0, ⟨#[]⟩⟩ ++ rest = [UInt8.ofNat k] ++ rest := by simp [dby, h1]
    unfold rdeed
    rw [e, tk_good [UInt8.ofNat k] _ 1 rfl]
    simp only [List.getD_cons_zero, hk, if_neg h1]
theorem rdeeds_good (l : List Rd) (rest : List UInt8) (h : ∀ d ∈ l, okd d) (h2 : ∀ d ∈ l, d.put.size ≤ 600) : rdeeds l.length ⟨l.flatMap dby ++ rest, false⟩ = (l, ⟨rest, false⟩) := by
  induction l with
  | nil => rfl
  | cons d l ih =>
    have hd := rdeed_good d (l.flatMap dby ++ rest) (h d (by simp)) (h2 d (by simp))
    have ih' := ih (fun x hx => h x (by simp [hx])) (fun x hx => h2 x (by simp [hx]))
    have e : (d :: l).flatMap dby ++ rest = dby d ++ (l.flatMap dby ++ rest) := by simp
    simp only [List.length_cons, rdeeds]
    rw [e, hd]
    simp only [ih']
    simp
theorem sum_back (n : Nat) (h : n < 4294967296) : lsum (sum4 n) = n := by
  simp only [lsum, sum4, List.foldl_cons, List.foldl_nil, UInt8.toNat_ofNat']
  omega
theorem encB_parts (s : ByteArray) (l : List Rd) : encB s l = headB ++ (num s.data.toList.length ++ (s.data.toList ++ (num l.length ++ (l.flatMap dby ++ [])))) := by
  have : s.data.toList.length = s.size := by simp
  rw [this]; simp [encB]
theorem drop_head (x : List UInt8) : (headB ++ x).drop 4 = x := rfl
theorem parsed (s : ByteArray) (l : List Rd) (h : OKF s l) : txt0 (encB s l) = (s.data.toList, ⟨num l.length ++ (l.flatMap dby ++ []), false⟩) ∧ num0 (encB s l) = (l.length, ⟨l.flatMap dby ++ [], false⟩) ∧ deeds0 (encB s l) = (l, ⟨[], false⟩) := by
  have h1 := h.1
  have hl : s.data.toList.length = s.size := by simp
  have a : txt0 (encB s l) = (s.data.toList, ⟨num l.length ++ (l.flatMap dby ++ []), false⟩) := by
    unfold txt0
    rw [encB_parts, drop_head]
    exact rtxt_good _ _ (by omega)
  have b : num0 (encB s l) = (l.length, ⟨l.flatMap dby ++ [], false⟩) := by
    unfold num0
    rw [a]
    exact rnum_good _ _ (by have := h.2.1; omega)
  refine ⟨a, b, ?_⟩
  unfold deeds0
  rw [b]
  exact rdeeds_good l [] (h.2.2.2) (h.2.2.1)
theorem good_enc (s : ByteArray) (l : List Rd) (h : OKF s l) : GoodB (encB s l) := by
  obtain ⟨a, b, c⟩ := parsed s l h
  refine ⟨by rw [c], by rw [c], ?_, ?_⟩
  · rw [encB_parts]; rfl
  · rw [a, c]; simp only; rw [data_back]; exact h
theorem loadB_enc (s : ByteArray) (l : List Rd) (h : OKF s l) : loadB (encB s l) = ⟨s, l, 0⟩ := by
  obtain ⟨a, b, c⟩ := parsed s l h
  unfold loadB
  rw [if_pos (good_enc s l h), a, c]
theorem hv_nat (l : List UInt8) : ((hv l).toNat : Int) = hv l ∧ (hv l).toNat < 2147483647 := by have := hv_bd l; omega
theorem load_split (body sum : List UInt8) (h4 : sum.length = 4) (h8 : 8 ≤ body.length) : load (body ++ sum) = if hv body ≠ (lsum sum : Int) then none_ 6 else loadB body := by
  unfold load
  have e : (body ++ sum).length - 4 = body.length := by simp; omega
  rw [if_neg (by simp; omega), e, List.take_left, List.drop_left]
theorem encB_len8 (s : ByteArray) (l : List Rd) : 8 ≤ (encB s l).length := by
  rw [encB_parts]; simp [headB, num]; omega
theorem load_enc (s : ByteArray) (l : List Rd) (h : OKF s l) : load (enc s l) = ⟨s, l, 0⟩ := by
  unfold enc
  rw [load_split _ _ rfl (encB_len8 s l), sum_back _ (by have := (hv_nat (encB s l)).2; omega), (hv_nat _).1, if_neg (by simp), loadB_enc s l h]
theorem enc_len12 (s : ByteArray) (l : List Rd) : 12 ≤ (enc s l).length := by
  have := encB_len8 s l
  unfold enc
  rw [List.length_append]
  simp [sum4]; omega
/-- The shorter reader goes along with the longer one, or has ended too early. -/
def Sim (F P : St) : Prop := P.bad = true ∨ (F.bad = false ∧ P.bad = false ∧ ∃ z, z ≠ [] ∧ F.left = P.left ++ z)
theorem tk_bad (n : Nat) (st : St) (h : st.bad = true) : (tk n st).2.bad = true := by
  unfold tk; rw [if_pos (.inl h)]
theorem tk_sim (n : Nat) (F P : St) (h : Sim F P) (hF : (tk n F).2.bad = false) : Sim (tk n F).2 (tk n P).2 ∧ ((tk n P).2.bad = false → (tk n P).1 = (tk n F).1) := by
  rcases h with h | ⟨h1, h2, z, hz, he⟩
  · have := tk_bad n P h
    exact ⟨.inl this, fun h => by rw [this] at h; cases h⟩
  · by_cases hc : P.left.length < n
    · have : (tk n P).2.bad = true := by unfold tk; rw [if_pos (.inr hc)]
      exact ⟨.inl this, fun h => by rw [this] at h; cases h⟩
    · have eF : tk n F = (F.left.take n, ⟨F.left.drop n, false⟩) := by
        unfold tk; rw [if_neg]; rintro (h | h)
        · rw [h1] at h; cases h
        · rw [he, List.length_append] at h; omega
      have eP : tk n P = (P.left.take n, ⟨P.left.drop n, false⟩) := by
        unfold tk; rw [if_neg]; rintro (h | h)
        · rw [h2] at h; cases h
        · omega
      rw [eF, eP]
      refine ⟨.inr ⟨rfl, rfl, z, hz, ?_⟩, fun _ => ?_⟩
      · simp only; rw [he, List.drop_append_of_le_length (by omega)]
      · simp only; rw [he, List.take_append_of_le_length (by omega)]
theorem rnum_sim (F P : St) (h : Sim F P) (hF : (rnum F).2.bad = false) : Sim (rnum F).2 (rnum P).2 ∧ ((rnum P).2.bad = false → (rnum P).1 = (rnum F).1) := by
  obtain ⟨a, b⟩ := tk_sim 2 F P h hF
  refine ⟨a, fun hp => ?_⟩
  have := b hp
  unfold rnum
  simp only
  rw [this]
theorem tk_keep (n : Nat) (st : St) (h : (tk n st).2.bad = false) : st.bad = false := by
  cases hb : st.bad with
  | false => rfl
  | true => rw [tk_bad n st hb] at h; cases h
theorem rnum_bad (st : St) (h : st.bad = true) : (rnum st).2.bad = true := tk_bad 2 st h
theorem rtxt_bad (st : St) (h : st.bad = true) : (rtxt st).2.bad = true := tk_bad _ _ (rnum_bad st h)
theorem rtxt_sim (F P : St) (h : Sim F P) (hF : (rtxt F).2.bad = false) : Sim (rtxt F).2 (rtxt P).2 ∧ ((rtxt P).2.bad = false → (rtxt P).1 = (rtxt F).1) := by
  obtain ⟨a, b⟩ := rnum_sim F P h (tk_keep _ _ hF)
  cases hp : (rnum P).2.bad with
  | true =>
    have : (rtxt P).2.bad = true := tk_bad _ _ hp
    exact ⟨.inl this, fun h => by rw [this] at h; cases h⟩
  | false =>
    have e := b hp
    unfold rtxt at hF ⊢
    rw [e]
    exact tk_sim _ _ _ a hF
theorem rdeed_bad (st : St) (h : st.bad = true) : (rdeed st).2.bad = true := by
  unfold rdeed
  simp only
  split
  · exact rtxt_bad _ (rnum_bad _ (rnum_bad _ (tk_bad 1 _ h)))
  · exact tk_bad 1 _ h
theorem rdeed_sim (F P : St) (h : Sim F P) (hF : (rdeed F).2.bad = false) : Sim (rdeed F).2 (rdeed P).2 ∧ ((rdeed P).2.bad = false → (rdeed P).1 = (rdeed F).1) := by
  have hF1 : (tk 1 F).2.bad = false := by
    cases hb : (tk 1 F).2.bad with
    | false => rfl
    | true =>
      have : (rdeed F).2.bad = true := by
        unfold rdeed; simp only; split
        · exact rtxt_bad _ (rnum_bad _ (rnum_bad _ hb))
        · exact hb
      rw [this] at hF; cases hF
  obtain ⟨a, b⟩ := tk_sim 1 F P h hF1
  cases hp : (tk 1 P).2.bad with
  | true =>
    have : (rdeed P).2.bad = true := by
      unfold rdeed; simp only; split
      · exact rtxt_bad _ (rnum_bad _ (rnum_bad _ hp))
      · exact hp
    exact ⟨.inl this, fun h => by rw [this] at h; cases h⟩
  | false =>
    have e := b hp
    unfold rdeed at hF ⊢
    simp only at hF ⊢
    rw [e]
    by_cases h1 : ((tk 1 F).1.getD 0 0).toNat = 1
    · simp only [h1, if_true] at hF ⊢
      have f3 := hF
      have f2 : (rnum (rnum (tk 1 F).2).2).2.bad = false := by
        cases hb : (rnum (rnum (tk 1 F).2).2).2.bad with
        | false => rfl
        | true => rw [rtxt_bad _ hb] at f3; cases f3
      have f1 := tk_keep _ _ f2
      obtain ⟨a1, b1⟩ := rnum_sim _ _ a f1
      obtain ⟨a2, b2⟩ := rnum_sim _ _ a1 f2
      obtain ⟨a3, b3⟩ := rtxt_sim _ _ a2 f3
      refine ⟨a3, fun hq => ?_⟩
      have q2 : (rnum (rnum (tk 1 P).2).2).2.bad = false := by
        cases hb : (rnum (rnum (tk 1 P).2).2).2.bad with
        | false => rfl
        | true => rw [rtxt_bad _ hb] at hq; cases hq
      have q1 := tk_keep _ _ q2
      rw [b1 q1, b2 q2, b3 hq]
    · simp only [if_neg h1] at hF ⊢
      exact ⟨a, fun _ => trivial⟩
theorem rdeeds_bad (n : Nat) (st : St) (h : st.bad = true) : (rdeeds n st).2.bad = true := by
  cases n with
  | zero => exact h
  | succ n => unfold rdeeds; rw [if_pos h]; exact h
theorem rdeeds_sim (n : Nat) : ∀ F P : St, Sim F P → (rdeeds n F).2.bad = false → Sim (rdeeds n F).2 (rdeeds n P).2 := by
  induction n with
  | zero => intro F P h _; exact h
  | succ n ih =>
    intro F P h hF
    cases hp : P.bad with
    | true => exact .inl (rdeeds_bad _ _ hp)
    | false =>
      have hf : F.bad = false := by
        cases hb : F.bad with
        | false => rfl
        | true => rw [rdeeds_bad _ _ hb] at hF; cases hF
      simp only [rdeeds, hf, hp, if_neg (show ¬ (false = true) by decide)] at hF ⊢
      have hd : (rdeed F).2.bad = false := by
        cases hb : (rdeed F).2.bad with
        | false => rfl
        | true => rw [rdeeds_bad _ _ hb] at hF; cases hF
      exact ih _ _ (rdeed_sim F P h hd).1 hF
/-- What is shorter than what was saved, and begins as it, is not read. -/
theorem cut_bad (s : ByteArray) (l : List Rd) (h : OKF s l) (p z : List UInt8) (hz : z ≠ []) (he : encB s l = p ++ z) (hp : 4 ≤ p.length) : ¬ GoodB p := by
  intro hg
  obtain ⟨a, b, c⟩ := parsed s l h
  clear h
  generalize encB s l = B at *
  have s0 : Sim ⟨(B).drop 4, false⟩ ⟨p.drop 4, false⟩ := .inr ⟨rfl, rfl, z, hz, by simp only; rw [he, List.drop_append_of_le_length hp]⟩
  have hq := hg.1
  have t1 := rtxt_sim _ _ s0 (show (txt0 (B)).2.bad = false by rw [a])
  have n1 := rnum_sim _ _ t1.1 (show (num0 (B)).2.bad = false by rw [b])
  have hn : (num0 p).2.bad = false := by
    cases hb : (num0 p).2.bad with
    | false => rfl
    | true => unfold deeds0 at hq; rw [rdeeds_bad _ _ hb] at hq; cases hq
  have e := n1.2 hn
  have d1 := rdeeds_sim (num0 (B)).1 _ _ n1.1 (show (deeds0 (B)).2.bad = false by rw [c])
  have e2 : (num0 p).1 = (num0 (B)).1 := e
  have d2 : Sim (deeds0 (B)).2 (deeds0 p).2 := by
    unfold deeds0; rw [e2]; exact d1
  rcases d2 with d2 | ⟨_, _, z2, hz2, he2⟩
  · rw [hq] at d2; cases d2
  · rw [c] at he2
    simp only at he2
    have := List.append_eq_nil_iff.1 he2.symm
    exact hz2 this.2
theorem load_cut (s : ByteArray) (l : List Rd) (h : OKF s l) (k : Nat) (hk : k < (enc s l).length) : (load ((enc s l).take k)).c ≠ 0 := by
  have hlen : ((enc s l).take k).length = k := by rw [List.length_take]; omega
  by_cases h12 : k < 12
  · unfold load; rw [if_pos (by omega)]; decide
  · have e4 : (enc s l).length = (encB s l).length + 4 := by unfold enc; rw [List.length_append]; rfl
    unfold load
    rw [if_neg (by omega), hlen]
    split
    · decide
    · have hb : ((enc s l).take k).take (k - 4) = (encB s l).take (k - 4) := by
        rw [List.take_take, Nat.min_eq_left (by omega)]
        unfold enc
        rw [List.take_append_of_le_length (by omega)]
      rw [hb]
      unfold loadB
      rw [if_neg]
      · decide
      · refine cut_bad s l h _ ((encB s l).drop (k - 4)) ?_ (List.take_append_drop _ _).symm (by rw [List.length_take]; omega)
        intro e
        have := congrArg List.length e
        rw [List.length_drop] at this
        simp at this
        omega
end Go.Proofs.Ytegobmlbldabbaa
