/-
  A region that draws its order: first operations that each yield one value in every world that may come up (their calls may make memory but change nothing that was there), then a few that lay or write memory of the call's own, then the rest in one order: one walk of the order of the text serves every order. No function of the program is spoken of here.
-/
import Derived.Test.YtpjpckhmjonehaaBase
import Derived.StillTailTactics
namespace Go.Proofs.Ytpjpckhmjonehaa
open Go.RowKit
set_option linter.unusedVariables false

section
variable {P : Program} {ops : Array Oper} {md : Region.Mode} {I : World → Prop} {s : Nat}

@[go_sem] def GUpon (P : Program) (w : World) (v : Value) : Result Next → Prop
  | .ok (.value u) w' => w' = w ∧ u = v
  | .ok .skip w' => w' = w ∧ v = undef
  | .ok (.enter f args) w' => w' = w ∧ Calls P f args w (fun e w'' => e = .returned v ∧ Below w.heap.size w w'')
  | _ => False
@[go_sem] def GAt (P : Program) (o : Oper) (a : Act) (w : World) (v : Value) : Prop := GUpon P w v ((execOp a.eval o).run P w)
@[go_sem] def RUpon (P : Program) (K : Value → World → Prop) : Result Next → Prop
  | .ok (.value u) w' => K u w'
  | .ok .skip w' => K undef w'
  | .ok (.enter f args) w' => Calls P f args w' (fun e w'' => ∃ v, e = .returned v ∧ K v w'')
  | _ => False
def ROp (P : Program) (ops : Array Oper) (o : Oper) (K : Act → World → Prop) (a : Act) (w : World) : Prop :=
  if Region.wanted o (yielded ops a.tmps) = true then RUpon P (fun v w1 => K (a.put o.dst v) w1) ((execOp a.eval o).run P w) else K (a.put o.dst undef) w

theorem RUpon.mono {K K' : Value → World → Prop} (h : ∀ v w, K v w → K' v w) {r : Result Next} (hr : RUpon P K r) : RUpon P K' r := by
  cases r with
  | ok n w' =>
    cases n <;> simp only [RUpon] at hr ⊢
    case enter f args => exact Calls.mono hr fun e w'' ⟨v, he, hk⟩ => ⟨v, he, h _ _ hk⟩
    all_goals exact h _ _ hr
  | halt x w' => exact hr
theorem ROp.mono {o : Oper} {K K' : Act → World → Prop} (h : ∀ a w, K a w → K' a w) {a : Act} {w : World} (hr : ROp P ops o K a w) : ROp P ops o K' a w := by
  unfold ROp at *
  split
  · rename_i hw; rw [if_pos hw] at hr; exact hr.mono fun v w1 hk => h _ _ hk
  · rename_i hw; rw [if_neg hw] at hr; exact h _ _ hr
theorem ROp.wpOp {i : Nat} {o : Oper} {K : Act → World → Prop} {Q : Exit → Act → World → Prop} {a : Act} {w : World} (hi : ops[i]? = some o) (hr : ROp P ops o K a w) : wpOp P ops Q i K a w := by
  unfold Go.wpOp
  simp only [hi]
  unfold ROp at hr
  split
  · rename_i hw
    rw [if_pos hw] at hr
    refine .inl ?_
    unfold Oper.wp
    generalize (execOp a.eval o).run P w = r at *
    cases r with
    | ok n w' =>
      cases n <;> simp only [RUpon] at hr <;> simp only [Oper.upon]
      case enter f args => exact Calls.mono hr fun e w'' ⟨v, he, hk⟩ => by subst he; exact hk
      all_goals exact hr
    | halt x w' => exact hr.elim
  · rename_i hw; rw [if_neg hw] at hr; exact hr

def YG (P : Program) (ops : Array Oper) (I : World → Prop) (o : Oper) (v : Value) (a : Act) : Prop :=
  (Region.wanted o (yielded ops a.tmps) = true ∧ ∀ w, I w → GAt P o a w v) ∨ (Region.wanted o (yielded ops a.tmps) = false ∧ v = undef)
theorem YG.of_same {o : Oper} {v : Value} {a a' : Act} (hy : YG P ops I o v a) (he : execOp a'.eval o = execOp a.eval o)
    (hw : Region.wanted o (yielded ops a'.tmps) = Region.wanted o (yielded ops a.tmps)) : YG P ops I o v a' := by
  unfold YG GAt at *
  rw [he, hw]
  exact hy
theorem YG.rop {o : Oper} {v : Value} {a : Act} {K : Act → World → Prop} {w : World} (hy : YG P ops I o v a) (hI : I w) (h : ∀ w2, Below w.heap.size w w2 → K (a.put o.dst v) w2) : ROp P ops o K a w := by
  unfold ROp
  rcases hy with ⟨hw, hv⟩ | ⟨hw, rfl⟩
  · rw [if_pos hw]
    have h1 := hv w hI
    unfold GAt at h1
    generalize (execOp a.eval o).run P w = r at *
    cases r with
    | ok n w' =>
      cases n <;> simp only [GUpon] at h1 <;> simp only [RUpon]
      case value u => obtain ⟨rfl, rfl⟩ := h1; exact h _ (Below.refl _ _)
      case skip => obtain ⟨rfl, rfl⟩ := h1; exact h _ (Below.refl _ _)
      case enter f args => obtain ⟨rfl, hc⟩ := h1; exact hc.mono fun e w'' ⟨he, hb⟩ => ⟨v, he, h _ hb⟩
    | halt x w' => exact h1.elim
  · rw [if_neg (by rw [hw]; decide)]; exact h _ (Below.refl _ _)
theorem ROp.put2 {oi oj : Oper} {v : Value} (hap : oi.apart ops oj = true) (hsi : ∀ cs b, oi.op ≠ .select cs b) (hsj : ∀ cs b, oj.op ≠ .select cs b) {K : Act → World → Prop} {a : Act} {w : World}
    (hy : YG P ops I oi v a) (h : ROp P ops oj K (a.put oi.dst v) w) : ROp P ops oj (fun a' w1 => YG P ops I oi v a' ∧ K (a'.put oi.dst v) w1) a w := by
  obtain ⟨h1, h2, h3⟩ := Oper.apart_spec hap
  have keep : ∀ u, YG P ops I oi v (a.put oj.dst u) := fun u => hy.of_same (execOp_put oi hsi a oj.dst u h3) (wanted_put oi a oj.dst u h3)
  unfold ROp at *
  rw [wanted_put oj a oi.dst v h1, execOp_put oj hsj a oi.dst v h1] at h
  split
  · rename_i hw
    rw [if_pos hw] at h
    exact h.mono fun u w1 hk => ⟨keep u, by rw [← Act.put_comm a v u h2]; exact hk⟩
  · rename_i hw
    rw [if_neg hw] at h
    exact ⟨keep _, by rw [← Act.put_comm a v undef h2]; exact h⟩

def allL (s : Nat) (listed : Array Bool) : Bool := (List.range s).all fun i => listed.getD i true
theorem allL_not {listed : Array Bool} {i : Nat} (his : i < s) (h : listed.getD i true = false) : ¬ allL s listed = true := by
  intro ha
  have := List.all_eq_true.1 ha i (List.mem_range.2 his)
  rw [h] at this; cases this

def TS (P : Program) (md : Region.Mode) (ops : Array Oper) (I : World → Prop) (s : Nat) (Q : Exit → Act → World → Prop) : Nat → Array Bool → Act → World → Prop
  | 0, listed, a, w => allL s listed = true ∧ wpAny P md ops Q 0 listed a w
  | f + 1, listed, a, w => if allL s listed = true then wpAny P md ops Q (f + 1) listed a w else
      Region.ready md ops listed ≠ [] ∧ ∀ i ∈ Region.ready md ops listed, i < s ∧ ∃ o, ops[i]? = some o ∧
        ROp P ops o (fun a' w1 => I w1 ∧ ∀ w2, Below w1.heap.size w1 w2 → I w2 → TS P md ops I s Q f (listed.setIfInBounds i true) a' w2) a w

theorem TS_any {Q : Exit → Act → World → Prop} : ∀ (f : Nat) (listed : Array Bool) (a : Act) (w : World), TS P md ops I s Q f listed a w → wpAny P md ops Q f listed a w
  | 0, _, _, _, h => h.2
  | f + 1, listed, a, w, h => by
    unfold TS at h
    split at h
    · exact h
    · exact ⟨fun h0 => absurd h0 h.1, fun i hi => by
        obtain ⟨_, o, ho, hr⟩ := h.2 i hi
        exact (hr.mono fun a' w1 hk => TS_any f _ _ _ (hk.2 w1 (Below.refl _ _) hk.1)).wpOp ho⟩

theorem TS_first {Q : Exit → Act → World → Prop} {i : Nat} {oi : Oper} {v : Value} (hi : ops[i]? = some oi) (his : i < s) (hsel : ∀ (j : Nat) (o : Oper) cs b, ops[j]? = some o → o.op ≠ .select cs b)
    (hs : Region.sinkB md ops s = true) (hc : Region.chainB md ops s = true) (hn : s < ops.size) (hI : ∀ w w', I w → Below w.heap.size w w' → I w') :
    ∀ (f : Nat) (listed : Array Bool) (a : Act) (w : World), HeadInv md ops s listed →
      (∀ j oj, ops[j]? = some oj → j ≠ i → listed.getD j true = false → (∀ e ∈ oj.after, Region.binds md e = true → e.on ≠ i) → oi.apart ops oj = true) →
      i ∈ Region.ready md ops listed → YG P ops I oi v a →
      (∀ w2, Below w.heap.size w w2 → I w2 → TS P md ops I s Q f (listed.setIfInBounds i true) (a.put oi.dst v) w2) →
      ∀ w2, Below w.heap.size w w2 → I w2 → TS P md ops I s Q (f + 1) listed a w2 := by
  intro f
  induction f with
  | zero =>
    intro listed a w inv _ hr hy H w2 hw2 hI2
    have hun := (mem_ready.1 hr).1
    unfold TS
    rw [if_neg (allL_not his hun)]
    refine ⟨fun h => (by rw [h] at hr; cases hr), fun j hj => ?_⟩
    have hjs : j < s := by
      rcases Nat.lt_or_ge j s with h | h
      · exact h
      · exact absurd hj (tail_waits hs hc hn inv _ i rfl his hun j h)
    by_cases hji : j = i
    · subst hji
      exact ⟨hjs, oi, hi, hy.rop hI2 fun w3 hw3 => ⟨hI _ _ hI2 hw3, fun w4 hw4 hI4 => H w4 (bstep (bstep hw2 hw3) hw4) hI4⟩⟩
    · have h1 := ready_mono hj hji
      have h2 := (H w2 hw2 hI2).1
      exact absurd h2 (allL_not hjs (mem_ready.1 h1).1)
  | succ f ih =>
    intro listed a w inv hfree hr hy H w2 hw2 hI2
    have hun := (mem_ready.1 hr).1
    unfold TS
    rw [if_neg (allL_not his hun)]
    refine ⟨fun h => (by rw [h] at hr; cases hr), fun j hj => ?_⟩
    have hjs : j < s := by
      rcases Nat.lt_or_ge j s with h | h
      · exact h
      · exact absurd hj (tail_waits hs hc hn inv _ i rfl his hun j h)
    by_cases hji : j = i
    · subst hji
      exact ⟨hjs, oi, hi, hy.rop hI2 fun w3 hw3 => ⟨hI _ _ hI2 hw3, fun w4 hw4 hI4 => H w4 (bstep (bstep hw2 hw3) hw4) hI4⟩⟩
    · have h1 := ready_mono hj hji
      have h2 := H w2 hw2 hI2
      unfold TS at h2
      rw [if_neg (allL_not hjs (mem_ready.1 h1).1)] at h2
      obtain ⟨_, oj, hoj, hrj⟩ := h2.2 j h1
      obtain ⟨hjun, oj', hoj', hall⟩ := mem_ready.1 hj
      have : oj' = oj := Option.some.inj (hoj'.symm.trans hoj)
      subst this
      have hnot : ∀ e ∈ oj'.after, Region.binds md e = true → e.on ≠ i := fun e he hb heq => by
        have h1 := hall e he hb
        rw [heq, getD_both hun] at h1
        cases h1
      have h3 := ROp.put2 (hfree j oj' hoj hji hjun hnot) (fun cs b => hsel i oi cs b hi) (fun cs b => hsel j oj' cs b hoj) hy hrj
      have hfree' : ∀ k ok, ops[k]? = some ok → k ≠ i → (listed.setIfInBounds j true).getD k true = false →
          (∀ e ∈ ok.after, Region.binds md e = true → e.on ≠ i) → oi.apart ops ok = true := fun k ok hk hki hun2 hno => by
        refine hfree k ok hk hki ?_ hno
        by_cases hjk : j = k
        · subst hjk; exact hjun
        · rw [getD_set_ne true hjk] at hun2; exact hun2
      refine ⟨hjs, oj', hoj, h3.mono fun a' w3 hk => ⟨hk.2.1, ih (listed.setIfInBounds j true) a' w3 (inv.set hj hjs) hfree' (ready_mono hr (Ne.symm hji)) hk.1 ?_⟩⟩
      rw [Array.setIfInBounds_comm _ _ hji]
      exact hk.2.2

/-- The quiet operations, in the order of the text, in every world F i. -/
def wpB {ι : Type} (P : Program) (ops : Array Oper) (F : ι → World) (Φ : Act → Prop) : List Oper → Act → Prop
  | [], a => Φ a
  | o :: rest, a => if Region.wanted o (yielded ops a.tmps) = true then ∃ v, (∀ i, GAt P o a (F i) v) ∧ wpB P ops F Φ rest (a.put o.dst v) else wpB P ops F Φ rest (a.put o.dst undef)
theorem wpB_nil {ι : Type} {F : ι → World} {Φ : Act → Prop} {a : Act} (h : Φ a) : wpB P ops F Φ [] a := h
theorem wpB_step {ι : Type} {F : ι → World} {Φ : Act → Prop} {a : Act} {o : Oper} {rest : List Oper}
    (h : ∀ K : Act → Prop, (∀ a, wpB P ops F Φ rest a → K a) → if Region.wanted o (yielded ops a.tmps) = true then ∃ v, (∀ i, GAt P o a (F i) v) ∧ K (a.put o.dst v) else K (a.put o.dst undef)) : wpB P ops F Φ (o :: rest) a :=
  h _ (fun _ h => h)
/-- Then those that lay or write memory of the call's own, whatever has been laid between; then the rest. -/
def wpR (P : Program) (ops : Array Oper) (I : World → Prop) (Q : Exit → Act → World → Prop) (tail : List Oper) : List Oper → Act → World → Prop
  | [], a, w => wpList P ops Q tail a w
  | o :: r, a, w => ROp P ops o (fun a' w1 => I w1 ∧ ∀ w2, Below w1.heap.size w1 w2 → I w2 → wpR P ops I Q tail r a' w2) a w

theorem wpR_step {Q : Exit → Act → World → Prop} {tail r : List Oper} {o : Oper} {a : Act} {w : World}
    (h : ∀ K : Act → World → Prop, (∀ a' w1, (I w1 ∧ ∀ w2, Below w1.heap.size w1 w2 → I w2 → wpR P ops I Q tail r a' w2) → K a' w1) →
      if Region.wanted o (yielded ops a.tmps) = true then RUpon P (fun v w1 => K (a.put o.dst v) w1) ((execOp a.eval o).run P w) else K (a.put o.dst undef) w) : wpR P ops I Q tail (o :: r) a w :=
  h _ (fun _ _ h => h)
theorem wpR_nil {Q : Exit → Act → World → Prop} {tail : List Oper} {a : Act} {w : World} (h : wpList P ops Q tail a w) : wpR P ops I Q tail [] a w := h
def mixS (md : Region.Mode) (ops : Array Oper) : Nat → Nat → Array Bool → Bool
  | 0, k, listed => Region.seqB md ops (ops.size - k) k listed
  | m + 1, k, listed => decide (Region.ready md ops listed = [k]) && mixS md ops m (k + 1) (listed.setIfInBounds k true)
def mixQ (md : Region.Mode) (ops : Array Oper) (m : Nat) : Nat → Nat → Array Bool → Bool
  | 0, k, listed => mixS md ops m k listed
  | f + 1, k, listed => (Region.ready md ops listed).contains k && Region.free md ops listed k && mixQ md ops m f (k + 1) (listed.setIfInBounds k true)
def mixB (md : Region.Mode) (ops : Array Oper) (n m : Nat) : Bool :=
  Region.noSelect ops && decide (n + m < ops.size) && Region.sinkB md ops (n + m) && Region.chainB md ops (n + m) && mixQ md ops m n 0 (Array.replicate ops.size false)

theorem listed_set {listed : Array Bool} {k : Nat} (h : ∀ i, i < k → listed.getD i true = true) : ∀ i, i < k + 1 → (listed.setIfInBounds k true).getD i true = true := by
  intro i hi
  by_cases hk : k = i
  · subst hk
    rcases Nat.lt_or_ge k listed.size with h' | h'
    · simp [h']
    · simp
  · rw [getD_set_ne true hk]; exact h i (by omega)

theorem mixS_lex {Q : Exit → Act → World → Prop} {tail : List Oper} (hn : s < ops.size) (htail : tail = ops.toList.drop s) : ∀ (r : List Oper) (k : Nat) (listed : Array Bool) (a : Act) (w : World), (∀ j, j < r.length → r[j]? = ops[k + j]?) → k + r.length = s →
    HeadInv md ops s listed → (∀ i, i < k → listed.getD i true = true) → mixS md ops r.length k listed = true → wpR P ops I Q tail r a w → TS P md ops I s Q (ops.size - k) listed a w
  | [], k, listed, a, w, _, hk, inv, hl, hB, h => by
    have hks : k = s := by simpa using hk
    subst hks
    obtain ⟨g, hg⟩ : ∃ g, ops.size - k = g + 1 := ⟨ops.size - k - 1, by omega⟩
    have hall : allL k listed = true := List.all_eq_true.2 fun i hi => hl i (List.mem_range.1 hi)
    subst htail
    have hlen : (ops.toList.drop k).length = ops.size - k := by simp
    have hw := wpAny_of_seq (md := md) (ops.toList.drop k) k listed a w (fun j => by simp [List.getElem?_drop]) (by rw [hlen]; exact hB) h
    rw [hlen, hg] at hw
    rw [hg]
    unfold TS
    rw [if_pos hall]
    exact hw
  | o :: r, k, listed, a, w, hl0, hk, inv, hl, hB, h => by
    simp only [List.length_cons] at hk
    simp only [List.length_cons, mixS, Bool.and_eq_true, decide_eq_true_eq] at hB
    have h0 : ops[k]? = some o := by simpa using (hl0 0 (by simp)).symm
    have hr : k ∈ Region.ready md ops listed := by rw [hB.1]; simp
    have hks : k < s := by omega
    rw [show ops.size - k = (ops.size - (k + 1)) + 1 by omega]
    unfold TS
    rw [if_neg (allL_not hks (mem_ready.1 hr).1)]
    refine ⟨fun h => (by rw [h] at hr; cases hr), fun i hi => ?_⟩
    rw [hB.1] at hi
    have hik : i = k := by simpa using hi
    subst hik
    exact ⟨hks, o, h0, ROp.mono (fun a' w1 hk1 => ⟨hk1.1, fun w2 hw2 hI2 => mixS_lex hn htail r (i + 1) _ a' w2 (fun j hj => by have := hl0 (j + 1) (by simp; omega); simpa [Nat.add_assoc, Nat.add_comm 1 j] using this) (by omega) (inv.set hr hks) (listed_set hl) hB.2 (hk1.2 w2 hw2 hI2)⟩) h⟩

theorem mixQ_lex {Q : Exit → Act → World → Prop} {tail sp : List Oper} {w : World} (hsel : Region.noSelect ops = true) (hs : Region.sinkB md ops s = true) (hc : Region.chainB md ops s = true) (hn : s < ops.size) (hI : ∀ w w', I w → Below w.heap.size w w' → I w')
    (htail : tail = ops.toList.drop s) : ∀ (l : List Oper) (k : Nat) (listed : Array Bool) (a : Act), (∀ j, j < l.length → l[j]? = ops[k + j]?) → (∀ j, j < sp.length → sp[j]? = ops[k + l.length + j]?) → k + l.length + sp.length = s →
    HeadInv md ops s listed → (∀ i, i < k → listed.getD i true = true) → mixQ md ops sp.length l.length k listed = true →
    wpB P ops (fun i : {w : World // I w} => i.1) (fun a' => ∀ w2, Below w.heap.size w w2 → I w2 → wpR P ops I Q tail sp a' w2) l a →
    ∀ w2, Below w.heap.size w w2 → I w2 → TS P md ops I s Q (ops.size - k) listed a w2
  | [], k, listed, a, _, hsp, hk, inv, hl, hB, h => fun w2 hw2 hI2 => mixS_lex hn htail sp k listed a w2 (fun j hj => by simpa using hsp j hj) (by simpa using hk) inv hl hB (h w2 hw2 hI2)
  | o :: l, k, listed, a, hl0, hsp, hk, inv, hl, hB, h => by
    simp only [List.length_cons] at hk
    simp only [List.length_cons, mixQ, Bool.and_eq_true] at hB
    obtain ⟨⟨hr, hf⟩, hB'⟩ := hB
    have h0 : ops[k]? = some o := by simpa using (hl0 0 (by simp)).symm
    have hks : k < s := by omega
    have hr' : k ∈ Region.ready md ops listed := by simpa using hr
    obtain ⟨v, hy, hK⟩ : ∃ v, YG P ops I o v a ∧ wpB P ops (fun i : {w : World // I w} => i.1) (fun a' => ∀ w2, Below w.heap.size w w2 → I w2 → wpR P ops I Q tail sp a' w2) l (a.put o.dst v) := by
      unfold wpB at h
      by_cases hw : Region.wanted o (yielded ops a.tmps) = true
      · rw [if_pos hw] at h
        obtain ⟨v, hv, hn⟩ := h
        exact ⟨v, .inl ⟨hw, fun w hw' => hv ⟨w, hw'⟩⟩, hn⟩
      · rw [if_neg hw] at h
        exact ⟨undef, .inr ⟨by simpa using hw, rfl⟩, h⟩
    have H := mixQ_lex hsel hs hc hn hI htail l (k + 1) (listed.setIfInBounds k true) (a.put o.dst v) (fun j hj => by have := hl0 (j + 1) (by simp; omega); simpa [Nat.add_assoc, Nat.add_comm 1 j] using this)
      (fun j hj => by have := hsp j hj; simp only [List.length_cons] at this; rw [show k + 1 + l.length + j = k + (l.length + 1) + j by omega]; exact this) (by omega) (inv.set hr' hks) (listed_set hl) hB' hK
    rw [show ops.size - k = (ops.size - (k + 1)) + 1 by omega]
    exact TS_first h0 hks (Region.noSelect_spec hsel) hs hc hn hI _ listed a w inv (Region.free_spec h0 hf) hr' hy H

theorem wp_region_mix {id : Nat} {Q : Exit → Act → World → Prop} {a : Act} {w : World} {l : List Oper} (n m : Nat) (I : World → Prop) (hm : P.follows .mixedOrders = true) (hB : mixB .any l.toArray n m = true)
    (hI : ∀ w w', I w → Below w.heap.size w w' → I w') (h0 : I w)
    (h : ∀ (ι : Type) (F : ι → World), Nonempty ι → (∀ i, I (F i)) →
      wpB P l.toArray F (fun a' => ∀ w2, Below w.heap.size w w2 → I w2 → wpR P l.toArray I Q (l.drop (n + m)) ((l.drop n).take m) a' w2) (l.take n) a) : (Code.region id l.toArray true).wp P Q a w := by
  simp only [mixB, Bool.and_eq_true, decide_eq_true_eq] at hB
  obtain ⟨⟨⟨⟨hsel, hn⟩, hs⟩, hc⟩, hQ⟩ := hB
  have hn' : n + m < l.length := by simpa using hn
  have hw0 : Below w.heap.size w w.drew := below_drewN (Below.refl _ _) 1
  have inv0 : HeadInv .any l.toArray (n + m) (Array.replicate l.toArray.size false) :=
    ⟨by simp, fun j oj _ hl => (by rw [getD_replicate_false] at hl; cases hl), fun t _ ht => getD_in (by simpa using ht) (getD_replicate_false _ _)⟩
  have hlq : (l.take n).length = n := by simp; omega
  have hls : ((l.drop n).take m).length = m := by simp; omega
  have H := mixQ_lex (P := P) (md := .any) (Q := Q) (w := w) (I := I) hsel hs hc hn hI (tail := l.drop (n + m)) (by simp) (l.take n) 0 (Array.replicate l.toArray.size false) a
    (fun j hj => by rw [hlq] at hj; simp [hj]) (sp := (l.drop n).take m) (fun j hj => by rw [hls] at hj; rw [hlq]; simp [hj, List.getElem?_drop]) (by rw [hlq, hls]; omega) inv0 (fun i hi => by omega) (by rw [hlq, hls]; exact hQ)
    (h {w : World // I w} (fun i => i.1) ⟨⟨w, h0⟩⟩ (fun i => i.2))
  refine wp_region_any hm ?_
  have := TS_any _ _ _ _ (H w.drew hw0 (hI _ _ h0 hw0))
  simpa using this
end
end Go.Proofs.Ytpjpckhmjonehaa
