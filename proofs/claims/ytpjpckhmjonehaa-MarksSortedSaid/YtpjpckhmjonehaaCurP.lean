/-
  Cursors, plain: where they go from and to, their order, one of two, the norm.
-/
import Derived.Test.YtpjpckhmjonehaaSpanP
import Derived.Sort.LotA
namespace Go.Proofs.Ytpjpckhmjonehaa
set_option linter.unusedVariables false
set_option linter.unusedSimpArgs false

/-- A cursor is told as a span: 'lo' is From, 'hi' is To. -/
def clo (c : Sp) : Nat := if c.lo ≤ c.hi then c.lo else c.hi
def chi (c : Sp) : Nat := if c.lo ≤ c.hi then c.hi else c.lo
theorem clo_le (c : Sp) : clo c ≤ chi c := by unfold clo chi; split <;> omega
def cmpI (x y : Nat) : Int := if x < y then -1 else if y < x then 1 else 0
def ccf (a b : Sp) : Int := if clo a = clo b then cmpI (chi a) (chi b) else cmpI (clo a) (clo b)
/-- Ahead, by what they go over. -/
def clt (a b : Sp) : Prop := clo a < clo b ∨ (clo a = clo b ∧ chi a < chi b)
theorem ccf_lt (a b : Sp) : ccf a b < 0 ↔ clt a b := by
  unfold ccf cmpI clt
  split
  · split
    · omega
    · split <;> omega
  · split
    · omega
    · split <;> omega
def turned (a b : Sp) : Bool := decide (a.hi < a.lo) || (decide (a.lo = a.hi) && decide (b.hi < b.lo))
def both (a b : Sp) : Sp := if turned a b then ⟨max (chi a) (chi b), clo a⟩ else ⟨clo a, max (chi a) (chi b)⟩
def bare (c : Sp) : Bool := decide (clo c = chi c)
def hits (a c : Sp) : Bool := decide (clo c < chi a) || (decide (clo c = chi a) && (bare a || bare c))
def nstep (o : List Sp) (c : Sp) : List Sp :=
  match o.getLast? with
  | none => [c]
  | some a => if hits a c then o.dropLast ++ [both a c] else o ++ [c]
def nfold (l : List Sp) : List Sp := l.foldl nstep []
theorem both_lo (a b : Sp) : clo (both a b) = clo a := by
  have := clo_le a
  unfold both
  split
  · show (if max (chi a) (chi b) ≤ clo a then max (chi a) (chi b) else clo a) = clo a
    split <;> omega
  · show (if clo a ≤ max (chi a) (chi b) then clo a else max (chi a) (chi b)) = clo a
    split <;> omega
theorem both_hi (a b : Sp) : chi (both a b) = max (chi a) (chi b) := by
  have := clo_le a
  unfold both
  split
  · show (if max (chi a) (chi b) ≤ clo a then clo a else max (chi a) (chi b)) = _
    split <;> omega
  · show (if clo a ≤ max (chi a) (chi b) then max (chi a) (chi b) else clo a) = _
    split <;> omega
theorem nstep_nil (c : Sp) : nstep [] c = [c] := rfl
theorem nstep_snoc (o : List Sp) (a c : Sp) : nstep (o ++ [a]) c = if hits a c then o ++ [both a c] else o ++ [a, c] := by
  unfold nstep
  rw [List.getLast?_append, List.getLast?_singleton, Option.some_or]
  simp only [List.dropLast_concat]
  split
  · rfl
  · simp
theorem nfold_snoc (l : List Sp) (k : Nat) (hk : k < l.length) : (l.take (k + 1)).foldl nstep [] = nstep ((l.take k).foldl nstep []) l[k] := by
  rw [List.take_succ_eq_append_getElem hk, List.foldl_append]; rfl
theorem nstep_len (o : List Sp) (c : Sp) : (nstep o c).length ≤ o.length + 1 ∧ o.length ≤ (nstep o c).length ∧ 0 < (nstep o c).length := by
  rcases List.eq_nil_or_concat o with rfl | ⟨o', a, rfl⟩
  · simp [nstep_nil]
  · rw [List.concat_eq_append, nstep_snoc]
    split <;> simp
theorem nfold_len (l : List Sp) : ∀ o : List Sp, (l.foldl nstep o).length ≤ o.length + l.length ∧ o.length ≤ (l.foldl nstep o).length := by
  induction l with
  | nil => intro o; simp
  | cons c l ih =>
    intro o
    have h1 := ih (nstep o c)
    have h2 := nstep_len o c
    rw [List.foldl_cons, List.length_cons]
    omega
/-- All of them end at or ahead of n. -/
def Upto (n : Nat) (l : List Sp) : Prop := ∀ c ∈ l, c.lo ≤ n ∧ c.hi ≤ n
theorem chi_le {n : Nat} {c : Sp} (h : c.lo ≤ n ∧ c.hi ≤ n) : chi c ≤ n := by unfold chi; split <;> omega
theorem both_upto {n : Nat} {a b : Sp} (ha : a.lo ≤ n ∧ a.hi ≤ n) (hb : b.lo ≤ n ∧ b.hi ≤ n) : (both a b).lo ≤ n ∧ (both a b).hi ≤ n := by
  have h1 := chi_le ha
  have h2 := chi_le hb
  have h3 := clo_le a
  unfold both
  split
  · show max (chi a) (chi b) ≤ n ∧ clo a ≤ n; omega
  · show clo a ≤ n ∧ max (chi a) (chi b) ≤ n; omega
theorem nstep_upto {n : Nat} {o : List Sp} {c : Sp} (h : Upto n o) (hc : c.lo ≤ n ∧ c.hi ≤ n) : Upto n (nstep o c) := by
  rcases List.eq_nil_or_concat o with rfl | ⟨o', a, rfl⟩
  · rw [nstep_nil]; intro x hx; rw [List.mem_singleton] at hx; subst hx; exact hc
  · rw [List.concat_eq_append] at h ⊢
    rw [nstep_snoc]
    have ha := h a (by simp)
    intro x hx
    split at hx
    · rcases List.mem_append.1 hx with hx | hx
      · exact h x (by simp [hx])
      · rw [List.mem_singleton] at hx; subst hx; exact both_upto ha hc
    · simp only [List.mem_append, List.mem_cons, List.not_mem_nil, or_false] at hx
      rcases hx with hx | rfl | rfl
      · exact h x (by simp [hx])
      · exact ha
      · exact hc
theorem nfold_upto {n : Nat} (l : List Sp) : ∀ o : List Sp, Upto n o → Upto n l → Upto n (l.foldl nstep o) := by
  induction l with
  | nil => intro o h _; exact h
  | cons c l ih => intro o h hl; exact ih _ (nstep_upto h (hl c (by simp))) (fun x hx => hl x (by simp [hx]))
/-- The places that cursors go over. -/
def over (l : List Sp) (j : Nat) : Bool := l.any fun c => decide (clo c ≤ j) && decide (j < chi c)
theorem over_append (a b : List Sp) (j : Nat) : over (a ++ b) j = (over a j || over b j) := by simp [over]
theorem over_cons (c : Sp) (l : List Sp) (j : Nat) : over (c :: l) j = ((decide (clo c ≤ j) && decide (j < chi c)) || over l j) := rfl
theorem over_one (c : Sp) (j : Nat) : over [c] j = (decide (clo c ≤ j) && decide (j < chi c)) := by simp [over]
/-- One behind the other, not to be made one. -/
def Apt : List Sp → Prop
  | [] => True
  | [_] => True
  | a :: b :: l => chi a ≤ clo b ∧ hits a b = false ∧ Apt (b :: l)
theorem Apt.tail {a : Sp} {l : List Sp} (h : Apt (a :: l)) : Apt l := by
  cases l with
  | nil => trivial
  | cons b l => exact h.2.2
theorem apt_snoc {o : List Sp} {a c : Sp} (h : Apt (o ++ [a])) (h1 : chi a ≤ clo c) (h2 : hits a c = false) : Apt (o ++ [a, c]) := by
  induction o with
  | nil => exact ⟨h1, h2, trivial⟩
  | cons x o ih =>
    cases o with
    | nil => exact ⟨h.1, h.2.1, ih h.2.2⟩
    | cons y o => exact ⟨h.1, h.2.1, ih h.2.2⟩
theorem hits_both {x a c : Sp} (h : hits x a = false) (hx : chi x ≤ clo a) : hits x (both a c) = false := by
  unfold hits at *
  simp only [Bool.or_eq_false_iff, Bool.and_eq_false_iff, decide_eq_false_iff_not, both_lo] at *
  refine ⟨h.1, ?_⟩
  rcases h.2 with h2 | h2
  · exact .inl h2
  · right
    refine ⟨h2.1, ?_⟩
    have h3 := h2.2
    have h4 := clo_le a
    unfold bare at h3 ⊢
    simp only [decide_eq_false_iff_not, both_lo, both_hi] at *
    omega
theorem apt_both {o : List Sp} {a c : Sp} (h : Apt (o ++ [a])) : Apt (o ++ [both a c]) := by
  induction o with
  | nil => trivial
  | cons x o ih =>
    cases o with
    | nil => exact ⟨by rw [both_lo]; exact h.1, hits_both h.2.1 h.1, trivial⟩
    | cons y o => exact ⟨h.1, h.2.1, ih h.2.2⟩
/-- What has been made of cursors that came in their order. -/
structure NOk (o : List Sp) (b : Nat) (l : List Sp) : Prop where
  apt : Apt o
  last : ∀ a ∈ o, clo a ≤ b
  over_ : ∀ j, over o j = over l j
theorem not_hits {a c : Sp} (h : hits a c = false) : chi a ≤ clo c := by
  unfold hits at h
  simp only [Bool.or_eq_false_iff, decide_eq_false_iff_not] at h
  omega
theorem over_both {a c : Sp} (h : hits a c = true) (hac : clo a ≤ clo c) (j : Nat) : over [both a c] j = (over [a] j || over [c] j) := by
  have h1 := clo_le a
  have h2 := clo_le c
  rw [over_one, over_one, over_one, both_lo, both_hi, Bool.eq_iff_iff]
  unfold hits bare at h
  simp only [Bool.or_eq_true, Bool.and_eq_true, decide_eq_true_eq] at *
  omega
theorem nstep_ok {o l : List Sp} {b : Nat} {c : Sp} (h : NOk o b l) (hb : b ≤ clo c) : NOk (nstep o c) (clo c) (l ++ [c]) := by
  rcases List.eq_nil_or_concat o with rfl | ⟨o', a, rfl⟩
  · rw [nstep_nil]
    refine ⟨trivial, fun a ha => by rw [List.mem_singleton] at ha; subst ha; exact Nat.le_refl _, fun j => ?_⟩
    rw [over_append, ← h.over_ j]; rfl
  · rw [List.concat_eq_append] at h ⊢
    rw [nstep_snoc]
    have ha := h.last a (by simp)
    have hov : ∀ j, over (l ++ [c]) j = (over o' j || (over [a] j || over [c] j)) := fun j => by
      rw [over_append, ← h.over_ j, over_append, Bool.or_assoc]
    by_cases q : hits a c = true
    · rw [if_pos q]
      refine ⟨apt_both h.apt, fun x hx => ?_, fun j => by rw [over_append, hov, over_both q (by omega)]⟩
      rcases List.mem_append.1 hx with hx | hx
      · exact Nat.le_trans (h.last x (by simp [hx])) hb
      · rw [List.mem_singleton] at hx; subst hx; rw [both_lo]; omega
    · rw [if_neg q]
      have q' : hits a c = false := by simpa using q
      refine ⟨apt_snoc h.apt (not_hits q') q', fun x hx => ?_, fun j => ?_⟩
      · simp only [List.mem_append, List.mem_cons, List.not_mem_nil, or_false] at hx
        rcases hx with hx | rfl | rfl
        · exact Nat.le_trans (h.last x (by simp [hx])) hb
        · omega
        · exact Nat.le_refl _
      · rw [hov, over_append, show over [a, c] j = (over [a] j || over [c] j) from by simp [over]]
/-- Sorted by what they go over. -/
def Srt (l : List Sp) : Prop := l.Pairwise fun a b => ¬ clt b a
theorem nfold_ok (l : List Sp) (h : Srt l) : ∀ (o m : List Sp) (b : Nat), NOk o b m → (∀ c ∈ l, b ≤ clo c) → Apt (l.foldl nstep o) ∧ ∀ j, over (l.foldl nstep o) j = over (m ++ l) j := by
  induction l with
  | nil => intro o m b h _; exact ⟨h.apt, fun j => by rw [List.append_nil]; exact h.over_ j⟩
  | cons c l ih =>
    intro o m b ho hb
    unfold Srt at h
    rw [List.pairwise_cons] at h
    have h1 := nstep_ok ho (hb c (by simp))
    have h2 := ih h.2 (nstep o c) (m ++ [c]) (clo c) h1 (fun x hx => by have := h.1 x hx; unfold clt at this; omega)
    rw [List.append_assoc] at h2
    exact h2
theorem nfold_apt {l : List Sp} (h : Srt l) : Apt (nfold l) ∧ ∀ j, over (nfold l) j = over l j :=
  nfold_ok l h [] [] 0 ⟨trivial, (fun a ha => nomatch ha), (fun j => rfl)⟩ (fun c hc => Nat.zero_le _)
/-- What they go over alone counts. -/
def key (c : Sp) : Nat × Nat := (clo c, chi c)
theorem hits_key {a c a' c' : Sp} (ha : key a = key a') (hc : key c = key c') : hits a c = hits a' c' := by
  unfold key at ha hc
  simp only [Prod.mk.injEq] at ha hc
  unfold hits bare
  rw [ha.1, ha.2, hc.1, hc.2]
theorem both_key {a c a' c' : Sp} (ha : key a = key a') (hc : key c = key c') : key (both a c) = key (both a' c') := by
  unfold key at *
  simp only [Prod.mk.injEq] at *
  rw [both_lo, both_lo, both_hi, both_hi]
  omega
theorem nstep_key {o o' : List Sp} {c c' : Sp} (h : o.map key = o'.map key) (hc : key c = key c') : (nstep o c).map key = (nstep o' c').map key := by
  rcases List.eq_nil_or_concat o with rfl | ⟨o1, a, rfl⟩
  · have : o' = [] := by simpa using h.symm
    subst this
    simp [nstep_nil, hc]
  · rcases List.eq_nil_or_concat o' with rfl | ⟨o2, a', rfl⟩
    · simp at h
    · simp only [List.concat_eq_append] at h ⊢
      rw [List.map_append, List.map_append] at h
      obtain ⟨h1, h2⟩ := List.append_inj' h rfl
      have h3 : key a = key a' := by simpa using h2
      rw [nstep_snoc, nstep_snoc, hits_key h3 hc]
      split
      · rw [List.map_append, List.map_append, h1]; simp [both_key h3 hc]
      · rw [List.map_append, List.map_append, h1]; simp [h3, hc]
theorem nfold_key (l : List Sp) : ∀ (l' o o' : List Sp), o.map key = o'.map key → l.map key = l'.map key → (l.foldl nstep o).map key = (l'.foldl nstep o').map key := by
  induction l with
  | nil => intro l' o o' h hl; have : l' = [] := by simpa using hl.symm
           subst this; exact h
  | cons c l ih =>
    intro l' o o' h hl
    cases l' with
    | nil => simp at hl
    | cons c' l' =>
      simp only [List.map_cons, List.cons.injEq] at hl
      exact ih l' _ _ (nstep_key h hl.1) hl.2
/-- Cursors that are apart stay as they are. -/
theorem nfold_self (l : List Sp) : ∀ o : List Sp, Apt (o ++ l) → l.foldl nstep o = o ++ l := by
  induction l with
  | nil => intro o _; simp
  | cons c l ih =>
    intro o h
    have e : nstep o c = o ++ [c] := by
      rcases List.eq_nil_or_concat o with rfl | ⟨o', a, rfl⟩
      · rfl
      · rw [List.concat_eq_append] at h ⊢
        rw [nstep_snoc]
        have h2 : hits a c = false := by
          clear ih
          induction o' with
          | nil => exact h.2.1
          | cons x o' ih2 => exact ih2 h.tail
        rw [h2]; simp
    rw [List.foldl_cons, e, ih (o ++ [c]) (by simpa using h)]
    simp
theorem apt_srt (l : List Sp) (h : Apt l) : l.Pairwise fun a b => clt a b := by
  induction l with
  | nil => exact List.Pairwise.nil
  | cons a l ih =>
    refine List.pairwise_cons.2 ⟨?_, ih h.tail⟩
    have ht := ih h.tail
    cases l with
    | nil => intro b hb; cases hb
    | cons b l =>
      have h1 : clt a b := by
        have k1 := h.1
        have k2 := h.2.1
        have k3 := clo_le a
        have k4 := clo_le b
        unfold hits bare at k2
        simp only [Bool.or_eq_false_iff, Bool.and_eq_false_iff, decide_eq_false_iff_not] at k2
        unfold clt
        omega
      intro x hx
      rcases List.mem_cons.1 hx with rfl | hx
      · exact h1
      · have h2 := (List.pairwise_cons.1 ht).1 x hx
        unfold clt at h1 h2 ⊢; omega
/-- Two sorted lists of the same cursors go over the same, one by one. -/
theorem srt_keys (l l' : List Sp) (h : Srt l) (h' : Srt l') (hp : List.Perm l l') : l.map key = l'.map key := by
  refine List.Perm.eq_of_pairwise (le := fun p q : Nat × Nat => ¬ (q.1 < p.1 ∨ (q.1 = p.1 ∧ q.2 < p.2))) ?_ ?_ ?_ (hp.map key)
  · intro a b _ _ h1 h2
    exact Prod.ext (by omega) (by omega)
  · rw [List.pairwise_map]; exact h
  · rw [List.pairwise_map]; exact h'
theorem apt_srt' {l : List Sp} (h : Apt l) : Srt l := (apt_srt l h).imp fun {a b} h => by unfold clt at *; omega
/-- Sorted, cursors that are apart are as they were. -/
theorem apt_sorted {l l' : List Sp} (h : Apt l) (h' : Srt l') (hp : List.Perm l' l) : l' = l := by
  have hs := apt_srt l h
  refine List.Perm.eq_of_pairwise (le := fun a b => ¬ clt b a) ?_ h' (apt_srt' h) hp
  intro a b ha hb h1 h2
  have ha' := hp.mem_iff.1 ha
  obtain ⟨i, hi, rfl⟩ := List.getElem_of_mem ha'
  obtain ⟨j, hj, rfl⟩ := List.getElem_of_mem hb
  rw [List.pairwise_iff_getElem] at hs
  rcases Nat.lt_trichotomy i j with h3 | h3 | h3
  · exact absurd (hs i j hi hj h3) h2
  · subst h3; rfl
  · exact absurd (hs j i hj hi h3) h1
theorem nfold_nil (l : List Sp) : nfold l = [] ↔ l = [] := by
  constructor
  · intro h
    cases l with
    | nil => rfl
    | cons c l =>
      have h1 := (nfold_len l (nstep [] c)).2
      unfold nfold at h
      rw [List.foldl_cons] at h
      rw [h, List.length_nil] at h1
      have := (nstep_len [] c).2.2
      omega
  · rintro rfl; rfl
/-- The norm of cursors, whichever way those that go over the same are sorted. -/
structure IsNorm (l o : List Sp) : Prop where
  ex : ∃ s, List.Perm s l ∧ Srt s ∧ o = nfold s
theorem IsNorm.apt {l o : List Sp} (h : IsNorm l o) : Apt o := by
  obtain ⟨s, _, hs, rfl⟩ := h.ex
  exact (nfold_apt hs).1
theorem over_perm {l l' : List Sp} (h : List.Perm l l') (j : Nat) : over l j = over l' j := by
  unfold over
  rw [Bool.eq_iff_iff, List.any_eq_true, List.any_eq_true]
  constructor
  · rintro ⟨x, hx, h2⟩; exact ⟨x, h.mem_iff.1 hx, h2⟩
  · rintro ⟨x, hx, h2⟩; exact ⟨x, h.mem_iff.2 hx, h2⟩
theorem IsNorm.over_ {l o : List Sp} (h : IsNorm l o) (j : Nat) : over o j = over l j := by
  obtain ⟨s, hp, hs, rfl⟩ := h.ex
  rw [(nfold_apt hs).2, over_perm hp]
theorem IsNorm.same {l l' o o' : List Sp} (h : IsNorm l o) (h' : IsNorm l' o') (hp : List.Perm l l') : o.map key = o'.map key := by
  obtain ⟨s, hp1, hs, rfl⟩ := h.ex
  obtain ⟨s', hp2, hs', rfl⟩ := h'.ex
  exact nfold_key s s' [] [] rfl (srt_keys s s' hs hs' (hp1.trans (hp.trans hp2.symm)))
theorem IsNorm.self {l o : List Sp} (hl : Apt l) (h : IsNorm l o) : o = l := by
  obtain ⟨s, hp, hs, rfl⟩ := h.ex
  rw [apt_sorted hl hs hp]
  exact nfold_self l [] hl
theorem IsNorm.len {l o : List Sp} (h : IsNorm l o) : o.length ≤ l.length ∧ (o = [] ↔ l = []) := by
  obtain ⟨s, hp, hs, rfl⟩ := h.ex
  have := (nfold_len s []).1
  rw [hp.length_eq] at this
  refine ⟨by simpa [nfold] using this, ?_⟩
  rw [nfold_nil]
  constructor
  · rintro rfl; exact List.nil_perm.1 hp
  · rintro rfl; exact List.perm_nil.1 hp
theorem IsNorm.upto {n : Nat} {l o : List Sp} (h : IsNorm l o) (hl : Upto n l) : Upto n o := by
  obtain ⟨s, hp, hs, rfl⟩ := h.ex
  exact nfold_upto s [] (fun c hc => nomatch hc) (fun c hc => hl c (hp.mem_iff.1 hc))
end Go.Proofs.Ytpjpckhmjonehaa
