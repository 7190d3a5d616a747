/-
  A region that draws its order, walked in phases, where the worlds that may come up are the world it began in after some draws and with some blocks laid behind it. No function of the program is spoken of here.
-/
import Derived.Test.YtpjpckhmjonehaaBase
import Derived.StillTailTactics
import Derived.Sort.Grow
namespace Go.Proofs.Ytpjpckhmjonehaa.Gr
open Go.RowKit Go.Sort
set_option linter.unusedVariables false

/-- After some draws, with some blocks behind. -/
def Grew (w w' : World) : Prop := ∃ q os, w' = grow (w.drewN q) os
theorem Grew.refl (w : World) : Grew w w := ⟨0, #[], by rw [grow_empty]; rfl⟩
theorem Grew.trans {a b c : World} (h : Grew a b) (k : Grew b c) : Grew a c := by
  obtain ⟨q, os, rfl⟩ := h
  obtain ⟨q', os', rfl⟩ := k
  exact ⟨q + q', os ++ os', by rw [← grow_grow, ← World.drewN_drewN]; rfl⟩
theorem Grew.drew1 (w : World) : Grew w w.drew := ⟨1, #[], by rw [grow_empty]; rfl⟩
theorem Grew.drewN (w : World) (n : Nat) : Grew w (w.drewN n) := ⟨n, #[], by rw [grow_empty]⟩
theorem Grew.alloc (w : World) (o : Obj) : Grew w (w.alloc o) := ⟨0, #[o], by rw [alloc_eq_grow]; rfl⟩
theorem Grew.below {w w' : World} (h : Grew w w') : Below w.heap.size w w' := by
  obtain ⟨q, os, rfl⟩ := h
  exact ⟨rfl, rfl, rfl, by rw [size_grow]; exact Nat.le_add_right _ _, fun k hk => by
    rw [heap_grow_old _ _ (by exact hk)]; rfl⟩

section
variable {P : Program} {ops : Array Oper} {md : Region.Mode} {I : World → Prop}

@[go_sem] def GUpon (P : Program) (w : World) (v : Value) : Result Next → Prop
  | .ok (.value u) w' => w' = w ∧ u = v
  | .ok .skip w' => w' = w ∧ v = undef
  | .ok (.enter f args) w' => w' = w ∧ Calls P f args w (fun e w'' => e = .returned v ∧ Grew w w'')
  | _ => False
@[go_sem] def GAt (P : Program) (o : Oper) (a : Act) (w : World) (v : Value) : Prop := GUpon P w v ((execOp a.eval o).run P w)
@[go_sem] def RUpon (P : Program) (K : Value → World → Prop) : Result Next → Prop
  | .ok (.value u) w' => K u w'
  | .ok .skip w' => K undef w'
  | .ok (.enter f args) w' => Calls P f args w' (fun e w'' => ∃ v, e = .returned v ∧ K v w'')
  | _ => False
def ROp (P : Program) (ops : Array Oper) (o : Oper) (K : Act → World → Prop) (a : Act) (w : World) : Prop :=
  if Region.wanted o (yielded ops a.tmps) = true then RUpon P (fun v w1 => K (a.put o.dst v) w1) ((execOp a.eval o).run P w) else K (a.put o.dst undef) w

theorem RUpon.mono {K K' : Value → World → Prop} (h : ∀ v w, K v w → K' v w) {r : Result Next} (hr : RUpon P K r) : RUpon P K' r := by
  cases r with
  | ok n w' =>
    cases n <;> simp only [RUpon] at hr ⊢
    case enter f args => exact Calls.mono hr fun e w'' ⟨v, he, hk⟩ => ⟨v, he, h _ _ hk⟩
    all_goals exact h _ _ hr
  | halt x w' => exact hr
theorem ROp.mono {o : Oper} {K K' : Act → World → Prop} (h : ∀ a w, K a w → K' a w) {a : Act} {w : World} (hr : ROp P ops o K a w) : ROp P ops o K' a w := by
  unfold ROp at *
  split
  · rename_i hw; rw [if_pos hw] at hr; exact hr.mono fun v w1 hk => h _ _ hk
  · rename_i hw; rw [if_neg hw] at hr; exact h _ _ hr
theorem ROp.wpOp {i : Nat} {o : Oper} {K : Act → World → Prop} {Q : Exit → Act → World → Prop} {a : Act} {w : World} (hi : ops[i]? = some o) (hr : ROp P ops o K a w) : wpOp P ops Q i K a w := by
  unfold Go.wpOp
  simp only [hi]
  unfold ROp at hr
  split
  · rename_i hw
    rw [if_pos hw] at hr
    refine .inl ?_
    unfold Oper.wp
    generalize (execOp a.eval o).run P w = r at *
    cases r with
    | ok n w' =>
      cases n <;> simp only [RUpon] at hr <;> simp only [Oper.upon]
      case enter f args => exact Calls.mono hr fun e w'' ⟨v, he, hk⟩ => by subst he; exact hk
      all_goals exact hr
    | halt x w' => exact hr.elim
  · rename_i hw; rw [if_neg hw] at hr; exact hr

def YG (P : Program) (ops : Array Oper) (I : World → Prop) (o : Oper) (v : Value) (a : Act) : Prop :=
  (Region.wanted o (yielded ops a.tmps) = true ∧ ∀ w, I w → GAt P o a w v) ∨ (Region.wanted o (yielded ops a.tmps) = false ∧ v = undef)
theorem YG.of_same {o : Oper} {v : Value} {a a' : Act} (hy : YG P ops I o v a) (he : execOp a'.eval o = execOp a.eval o)
    (hw : Region.wanted o (yielded ops a'.tmps) = Region.wanted o (yielded ops a.tmps)) : YG P ops I o v a' := by
  unfold YG GAt at *
  rw [he, hw]
  exact hy
theorem YG.rop {o : Oper} {v : Value} {a : Act} {K : Act → World → Prop} {w : World} (hy : YG P ops I o v a) (hI : I w) (h : ∀ w2, Grew w w2 → K (a.put o.dst v) w2) : ROp P ops o K a w := by
  unfold ROp
  rcases hy with ⟨hw, hv⟩ | ⟨hw, rfl⟩
  · rw [if_pos hw]
    have h1 := hv w hI
    unfold GAt at h1
    generalize (execOp a.eval o).run P w = r at *
    cases r with
    | ok n w' =>
      cases n <;> simp only [GUpon] at h1 <;> simp only [RUpon]
      case value u => obtain ⟨rfl, rfl⟩ := h1; exact h _ (Grew.refl _)
      case skip => obtain ⟨rfl, rfl⟩ := h1; exact h _ (Grew.refl _)
      case enter f args => obtain ⟨rfl, hc⟩ := h1; exact hc.mono fun e w'' ⟨he, hb⟩ => ⟨v, he, h _ hb⟩
    | halt x w' => exact h1.elim
  · rw [if_neg (by rw [hw]; decide)]; exact h _ (Grew.refl _)
theorem ROp.put2 {oi oj : Oper} {v : Value} (hap : oi.apart ops oj = true) (hsi : ∀ cs b, oi.op ≠ .select cs b) (hsj : ∀ cs b, oj.op ≠ .select cs b) {K : Act → World → Prop} {a : Act} {w : World}
    (hy : YG P ops I oi v a) (h : ROp P ops oj K (a.put oi.dst v) w) : ROp P ops oj (fun a' w1 => YG P ops I oi v a' ∧ K (a'.put oi.dst v) w1) a w := by
  obtain ⟨h1, h2, h3⟩ := Oper.apart_spec hap
  have keep : ∀ u, YG P ops I oi v (a.put oj.dst u) := fun u => hy.of_same (execOp_put oi hsi a oj.dst u h3) (wanted_put oi a oj.dst u h3)
  unfold ROp at *
  rw [wanted_put oj a oi.dst v h1, execOp_put oj hsj a oi.dst v h1] at h
  split
  · rename_i hw
    rw [if_pos hw] at h
    exact h.mono fun u w1 hk => ⟨keep u, by rw [← Act.put_comm a v u h2]; exact hk⟩
  · rename_i hw
    rw [if_neg hw] at h
    exact ⟨keep _, by rw [← Act.put_comm a v undef h2]; exact h⟩

/-- The quiet operations, in the order of the text, in every world F i. -/
def wpB {ι : Type} (P : Program) (ops : Array Oper) (F : ι → World) (Φ : Act → Prop) : List Oper → Act → Prop
  | [], a => Φ a
  | o :: rest, a => if Region.wanted o (yielded ops a.tmps) = true then ∃ v, (∀ i, GAt P o a (F i) v) ∧ wpB P ops F Φ rest (a.put o.dst v) else wpB P ops F Φ rest (a.put o.dst undef)
theorem wpB_nil {ι : Type} {F : ι → World} {Φ : Act → Prop} {a : Act} (h : Φ a) : wpB P ops F Φ [] a := h
theorem wpB_step {ι : Type} {F : ι → World} {Φ : Act → Prop} {a : Act} {o : Oper} {rest : List Oper}
    (h : ∀ K : Act → Prop, (∀ a, wpB P ops F Φ rest a → K a) → if Region.wanted o (yielded ops a.tmps) = true then ∃ v, (∀ i, GAt P o a (F i) v) ∧ K (a.put o.dst v) else K (a.put o.dst undef)) : wpB P ops F Φ (o :: rest) a :=
  h _ (fun _ h => h)
def pickOps (l : List Oper) : List Nat → List Oper
  | [] => []
  | i :: q => match l[i]? with
    | some o => o :: pickOps l q
    | none => []
theorem pickOps_cons {l : List Oper} {k : Nat} {q : List Nat} {o : Oper} (h : l[k]? = some o) : pickOps l (k :: q) = o :: pickOps l q := by
  simp only [pickOps, h]
theorem ready_op {listed : Array Bool} {k : Nat} (h : k ∈ Region.ready md ops listed) : ∃ o, ops[k]? = some o := by
  obtain ⟨_, o, ho, _⟩ := mem_ready.1 h
  exact ⟨o, ho⟩

def TA (P : Program) (md : Region.Mode) (ops : Array Oper) (I : World → Prop) (Q : Exit → Act → World → Prop) : Nat → Array Bool → Act → World → Prop
  | 0, listed, a, w => Region.ready md ops listed = [] ∧ Q .normal a w
  | f + 1, listed, a, w => Region.ready md ops listed ≠ [] ∧ ∀ i ∈ Region.ready md ops listed, ∃ o, ops[i]? = some o ∧
        ROp P ops o (fun a' w1 => I w1 ∧ ∀ w2, Grew w1 w2 → I w2 → TA P md ops I Q f (listed.setIfInBounds i true) a' w2) a w

theorem TA_any {Q : Exit → Act → World → Prop} : ∀ (f : Nat) (listed : Array Bool) (a : Act) (w : World), TA P md ops I Q f listed a w → wpAny P md ops Q f listed a w
  | 0, _, _, _, h => h
  | f + 1, listed, a, w, h => ⟨fun h0 => absurd h0 h.1, fun i hi => by
      obtain ⟨o, ho, hr⟩ := h.2 i hi
      exact (hr.mono fun a' w1 hk => TA_any f _ _ _ (hk.2 w1 (Grew.refl _) hk.1)).wpOp ho⟩

theorem TA_first {Q : Exit → Act → World → Prop} {i : Nat} {oi : Oper} {v : Value} (hi : ops[i]? = some oi) (hsel : ∀ (j : Nat) (o : Oper) cs b, ops[j]? = some o → o.op ≠ .select cs b)
    (hI : ∀ w w', I w → Grew w w' → I w') :
    ∀ (f : Nat) (listed : Array Bool) (a : Act) (w : World),
      (∀ j oj, ops[j]? = some oj → j ≠ i → listed.getD j true = false → (∀ e ∈ oj.after, Region.binds md e = true → e.on ≠ i) → oi.apart ops oj = true) →
      i ∈ Region.ready md ops listed → YG P ops I oi v a →
      (∀ w2, Grew w w2 → I w2 → TA P md ops I Q f (listed.setIfInBounds i true) (a.put oi.dst v) w2) →
      ∀ w2, Grew w w2 → I w2 → TA P md ops I Q (f + 1) listed a w2 := by
  intro f
  induction f with
  | zero =>
    intro listed a w _ hr hy H w2 hw2 hI2
    unfold TA
    refine ⟨fun h => (by rw [h] at hr; cases hr), fun j hj => ?_⟩
    by_cases hji : j = i
    · subst hji
      exact ⟨oi, hi, hy.rop hI2 fun w3 hw3 => ⟨hI _ _ hI2 hw3, fun w4 hw4 hI4 => H w4 ((hw2.trans hw3).trans hw4) hI4⟩⟩
    · have h1 := ready_mono hj hji
      have h2 := (H w2 hw2 hI2).1
      rw [h2] at h1; cases h1
  | succ f ih =>
    intro listed a w hfree hr hy H w2 hw2 hI2
    have hun := (mem_ready.1 hr).1
    unfold TA
    refine ⟨fun h => (by rw [h] at hr; cases hr), fun j hj => ?_⟩
    by_cases hji : j = i
    · subst hji
      exact ⟨oi, hi, hy.rop hI2 fun w3 hw3 => ⟨hI _ _ hI2 hw3, fun w4 hw4 hI4 => H w4 ((hw2.trans hw3).trans hw4) hI4⟩⟩
    · have h1 := ready_mono hj hji
      have h2 := H w2 hw2 hI2
      unfold TA at h2
      obtain ⟨oj, hoj, hrj⟩ := h2.2 j h1
      obtain ⟨hjun, oj', hoj', hall⟩ := mem_ready.1 hj
      have : oj' = oj := Option.some.inj (hoj'.symm.trans hoj)
      subst this
      have hnot : ∀ e ∈ oj'.after, Region.binds md e = true → e.on ≠ i := fun e he hb heq => by
        have h1 := hall e he hb
        rw [heq, getD_both hun] at h1
        cases h1
      have h3 := ROp.put2 (hfree j oj' hoj hji hjun hnot) (fun cs b => hsel i oi cs b hi) (fun cs b => hsel j oj' cs b hoj) hy hrj
      have hfree' : ∀ k ok, ops[k]? = some ok → k ≠ i → (listed.setIfInBounds j true).getD k true = false →
          (∀ e ∈ ok.after, Region.binds md e = true → e.on ≠ i) → oi.apart ops ok = true := fun k ok hk hki hun2 hno => by
        refine hfree k ok hk hki ?_ hno
        by_cases hjk : j = k
        · subst hjk; exact hjun
        · rw [getD_set_ne true hjk] at hun2; exact hun2
      refine ⟨oj', hoj, h3.mono fun a' w3 hk => ⟨hk.2.1, ih (listed.setIfInBounds j true) a' w3 hfree' (ready_mono hr (Ne.symm hji)) hk.1 ?_⟩⟩
      rw [Array.setIfInBounds_comm _ _ hji]
      exact hk.2.2

/-- Those that lay memory or call, one by one; then what follows. -/
def wpRB (P : Program) (ops : Array Oper) (I : World → Prop) (Φ : Act → World → Prop) : List Oper → Act → World → Prop
  | [], a, w => Φ a w
  | o :: r, a, w => ROp P ops o (fun a' w1 => I w1 ∧ ∀ w2, Grew w1 w2 → I w2 → wpRB P ops I Φ r a' w2) a w
theorem wpRB_step {Φ : Act → World → Prop} {r : List Oper} {o : Oper} {a : Act} {w : World}
    (h : ∀ K : Act → World → Prop, (∀ a' w1, (I w1 ∧ ∀ w2, Grew w1 w2 → I w2 → wpRB P ops I Φ r a' w2) → K a' w1) →
      if Region.wanted o (yielded ops a.tmps) = true then RUpon P (fun v w1 => K (a.put o.dst v) w1) ((execOp a.eval o).run P w) else K (a.put o.dst undef) w) : wpRB P ops I Φ (o :: r) a w :=
  h _ (fun _ _ h => h)
theorem wpRB_nil {Φ : Act → World → Prop} {a : Act} {w : World} (h : Φ a w) : wpRB P ops I Φ [] a w := h
/-- Phases. -/
def wpPh {ι : Type} (P : Program) (ops : Array Oper) (I : World → Prop) (F : ι → World) (Q : Exit → Act → World → Prop) : List (List Nat × List Nat) → Act → World → Prop
  | [], a, w => Q .normal a w
  | (q, r) :: ps, a, w => wpB P ops F (fun a' => ∀ w2, Grew w w2 → I w2 → wpRB P ops I (wpPh P ops I F Q ps) (pickOps ops.toList r) a' w2) (pickOps ops.toList q) a
theorem wpPh_nil {ι : Type} {F : ι → World} {Q : Exit → Act → World → Prop} {a : Act} {w : World} (h : Q .normal a w) : wpPh P ops I F Q [] a w := h
theorem wpPh_cons {ι : Type} {F : ι → World} {Q : Exit → Act → World → Prop} {q r : List Nat} {ps : List (List Nat × List Nat)} {a : Act} {w : World} {l : List Oper}
    (h : wpB P l.toArray F (fun a' => ∀ w2, Grew w w2 → I w2 → wpRB P l.toArray I (wpPh P l.toArray I F Q ps) (pickOps l r) a' w2) (pickOps l q) a) : wpPh P l.toArray I F Q ((q, r) :: ps) a w := h

def okR (md : Region.Mode) (ops : Array Oper) (c : Array Bool → Bool) : List Nat → Array Bool → Bool
  | [], listed => c listed
  | k :: r, listed => decide (Region.ready md ops listed = [k]) && okR md ops c r (listed.setIfInBounds k true)
def okQ (md : Region.Mode) (ops : Array Oper) (c : Array Bool → Bool) : List Nat → Array Bool → Bool
  | [], listed => c listed
  | k :: q, listed => (Region.ready md ops listed).contains k && Region.free md ops listed k && okQ md ops c q (listed.setIfInBounds k true)
def okPh (md : Region.Mode) (ops : Array Oper) : List (List Nat × List Nat) → Array Bool → Bool
  | [], listed => (Region.ready md ops listed).isEmpty
  | (q, r) :: ps, listed => okQ md ops (okR md ops (okPh md ops ps) r) q listed
def phLen : List (List Nat × List Nat) → Nat
  | [] => 0
  | (q, r) :: ps => q.length + r.length + phLen ps
def phB (md : Region.Mode) (ops : Array Oper) (ps : List (List Nat × List Nat)) : Bool :=
  Region.noSelect ops && decide (phLen ps = ops.size) && okPh md ops ps (Array.replicate ops.size false)

theorem okR_lex {Q : Exit → Act → World → Prop} {Φ : Act → World → Prop} {c : Array Bool → Bool} {n : Nat} (hc : ∀ listed a w, c listed = true → Φ a w → TA P md ops I Q n listed a w) : ∀ (r : List Nat) (listed : Array Bool) (a : Act) (w : World),
    okR md ops c r listed = true → wpRB P ops I Φ (pickOps ops.toList r) a w → TA P md ops I Q (n + r.length) listed a w
  | [], listed, a, w, hB, h => hc listed a w hB h
  | k :: r, listed, a, w, hB, h => by
    simp only [okR, Bool.and_eq_true, decide_eq_true_eq] at hB
    obtain ⟨hrd, hB⟩ := hB
    have hr : k ∈ Region.ready md ops listed := by rw [hrd]; simp
    obtain ⟨o, h0⟩ := ready_op hr
    have h0' : ops.toList[k]? = some o := by simpa using h0
    rw [pickOps_cons h0'] at h
    rw [List.length_cons, ← Nat.add_assoc]
    unfold TA
    refine ⟨fun h => (by rw [h] at hr; cases hr), fun i hi => ?_⟩
    rw [hrd] at hi
    have hik : i = k := by simpa using hi
    subst hik
    exact ⟨o, h0, ROp.mono (fun a' w1 hk1 => ⟨hk1.1, fun w2 hw2 hI2 => okR_lex hc r _ a' w2 hB (hk1.2 w2 hw2 hI2)⟩) h⟩

theorem okQ_lex {ι : Type} {F : ι → World} {Q : Exit → Act → World → Prop} {c : Array Bool → Bool} {n : Nat} {w : World} {Ψ : Act → World → Prop} (hsel : Region.noSelect ops = true) (hI : ∀ w w', I w → Grew w w' → I w') (hF : ∀ w, I w → ∃ i, F i = w)
    (hc : ∀ listed a w, c listed = true → Ψ a w → TA P md ops I Q n listed a w) : ∀ (q : List Nat) (listed : Array Bool) (a : Act),
    okQ md ops c q listed = true →
    wpB P ops F (fun a' => ∀ w2, Grew w w2 → I w2 → Ψ a' w2) (pickOps ops.toList q) a →
    ∀ w2, Grew w w2 → I w2 → TA P md ops I Q (n + q.length) listed a w2
  | [], listed, a, hB, h => fun w2 hw2 hI2 => hc listed a w2 hB (h w2 hw2 hI2)
  | k :: q, listed, a, hB, h => by
    simp only [okQ, Bool.and_eq_true] at hB
    obtain ⟨⟨hr, hfree⟩, hB'⟩ := hB
    have hr' : k ∈ Region.ready md ops listed := by simpa using hr
    obtain ⟨o, h0⟩ := ready_op hr'
    have h0' : ops.toList[k]? = some o := by simpa using h0
    rw [pickOps_cons h0'] at h
    obtain ⟨v, hy, hK⟩ : ∃ v, YG P ops I o v a ∧ wpB P ops F (fun a' => ∀ w2, Grew w w2 → I w2 → Ψ a' w2) (pickOps ops.toList q) (a.put o.dst v) := by
      unfold wpB at h
      by_cases hw : Region.wanted o (yielded ops a.tmps) = true
      · rw [if_pos hw] at h
        obtain ⟨v, hv, hn⟩ := h
        exact ⟨v, .inl ⟨hw, fun w hw' => by obtain ⟨i, rfl⟩ := hF w hw'; exact hv i⟩, hn⟩
      · rw [if_neg hw] at h
        exact ⟨undef, .inr ⟨by simpa using hw, rfl⟩, h⟩
    have H := okQ_lex hsel hI hF hc q (listed.setIfInBounds k true) (a.put o.dst v) hB' hK
    rw [List.length_cons, ← Nat.add_assoc]
    exact TA_first h0 (Region.noSelect_spec hsel) hI _ listed a w (Region.free_spec h0 hfree) hr' hy H

theorem okPh_lex {ι : Type} {F : ι → World} {Q : Exit → Act → World → Prop} (hsel : Region.noSelect ops = true) (hI : ∀ w w', I w → Grew w w' → I w') (hF : ∀ w, I w → ∃ i, F i = w) : ∀ (ps : List (List Nat × List Nat)) (listed : Array Bool) (a : Act) (w : World),
    okPh md ops ps listed = true → wpPh P ops I F Q ps a w → I w ∨ ps = [] → TA P md ops I Q (phLen ps) listed a w
  | [], listed, a, w, hB, h, _ => ⟨by simpa [okPh] using hB, h⟩
  | (q, r) :: ps, listed, a, w, hB, h, h0 => by
    simp only [okPh] at hB
    have hI0 : I w := h0.resolve_right (fun e => by cases e)
    have e : phLen ((q, r) :: ps) = phLen ps + r.length + q.length := by simp only [phLen]; omega
    rw [e]
    refine okQ_lex (w := w) (Ψ := fun a w => I w ∧ wpRB P ops I (wpPh P ops I F Q ps) (pickOps ops.toList r) a w) hsel hI hF ?_ q listed a hB ?_ w (Grew.refl _) hI0
    · intro listed a w hB h
      refine okR_lex (Φ := fun a w => (I w ∨ ps = []) ∧ wpPh P ops I F Q ps a w) ?_ r listed a w hB ?_
      · intro listed a w hB h
        exact okPh_lex hsel hI hF ps listed a w hB h.2 h.1
      · have key : ∀ (l : List Oper) (a : Act) (w : World), I w → wpRB P ops I (wpPh P ops I F Q ps) l a w → wpRB P ops I (fun a w => (I w ∨ ps = []) ∧ wpPh P ops I F Q ps a w) l a w := by
          intro l
          induction l with
          | nil => intro a w hi h; exact ⟨.inl hi, h⟩
          | cons o l ih => intro a w hi h; exact ROp.mono (fun a' w1 hk => ⟨hk.1, fun w2 hw2 hI2 => ih a' w2 hI2 (hk.2 w2 hw2 hI2)⟩) h
        exact key _ a w h.1 h.2
    · have key : ∀ (l : List Oper) (a : Act), wpB P ops F (fun a' => ∀ w2, Grew w w2 → I w2 → wpRB P ops I (wpPh P ops I F Q ps) (pickOps ops.toList r) a' w2) l a →
          wpB P ops F (fun a' => ∀ w2, Grew w w2 → I w2 → I w2 ∧ wpRB P ops I (wpPh P ops I F Q ps) (pickOps ops.toList r) a' w2) l a := by
        intro l
        induction l with
        | nil => intro a h w2 hw2 hI2; exact ⟨hI2, h w2 hw2 hI2⟩
        | cons o l ih =>
          intro a h
          unfold wpB at h ⊢
          split at h
          · rename_i hw
            rw [if_pos hw]
            obtain ⟨v, hv, hn⟩ := h
            exact ⟨v, hv, ih _ hn⟩
          · rename_i hw
            rw [if_neg hw]
            exact ih _ h
      exact key _ a h

theorem wp_region_ph {id : Nat} {Q : Exit → Act → World → Prop} {a : Act} {w : World} {l : List Oper} (ps : List (List Nat × List Nat)) (I : World → Prop) (hm : P.follows .mixedOrders = true) (hB : phB .any l.toArray ps = true)
    (hI : ∀ w w', I w → Grew w w' → I w') (h0 : I w)
    (h : ∀ (ι : Type) (F : ι → World), Nonempty ι → (∀ i, I (F i)) → ∀ w0, Grew w w0 → I w0 → wpPh P l.toArray I F Q ps a w0) : (Code.region id l.toArray true).wp P Q a w := by
  simp only [phB, Bool.and_eq_true, decide_eq_true_eq] at hB
  obtain ⟨⟨hsel, hn⟩, hQ⟩ := hB
  have hw0 : Grew w w.drew := Grew.drew1 w
  have hI0 := hI _ _ h0 hw0
  have H := okPh_lex (P := P) (md := .any) (Q := Q) (I := I) (F := fun i : {w : World // I w} => i.1) hsel hI (fun w hw => ⟨⟨w, hw⟩, rfl⟩) ps (Array.replicate l.toArray.size false) a w.drew hQ
    (h {w : World // I w} (fun i => i.1) ⟨⟨w, h0⟩⟩ (fun i => i.2) w.drew hw0 hI0) (.inl hI0)
  refine wp_region_any hm ?_
  have := TA_any _ _ _ _ H
  rw [hn] at this
  exact this
end
end Go.Proofs.Ytpjpckhmjonehaa.Gr
