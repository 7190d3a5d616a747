/-
  The walk of rope.play: all operations, one behind the other.
-/
import Derived.Test.YtddbhoilhapljaaRopeO
namespace Go.Proofs.Ytddbhoilhapljaa
open Go.RowKit
set_option linter.unusedVariables false

theorem errno_info : (Try.prog.info? 28).map (fun i => (i.zero, i.size, i.bytes)) = some (some (.int .i64 0), 1, 8) := by kernel_rfl
def cellsI (l : List Nat) : List Value := l.map fun (n : Nat) => Value.int .i64 (n : Int)
def lens (ts : List (List UInt8)) : List Nat := ts.map List.length
def stepT (ts : List (List UInt8)) (o : Ro) : List (List UInt8) × Nat := if rlen (lens ts) o ≤ 600 then (ts ++ [rres ts o], 0) else (ts, 1)
def runT : List (List UInt8) → List Ro → List (List UInt8) × List Nat
  | ts, [] => (ts, [])
  | ts, o :: l => ((runT (stepT ts o).1 l).1, (stepT ts o).2 :: (runT (stepT ts o).1 l).2)
def vldT : List (List UInt8) → List Ro → Prop
  | _, [] => True
  | ts, o :: l => rok (lens ts) o ∧ vldT (stepT ts o).1 l
theorem runT_append (a b : List Ro) : ∀ ts, runT ts (a ++ b) = ((runT (runT ts a).1 b).1, (runT ts a).2 ++ (runT (runT ts a).1 b).2) := by
  induction a with
  | nil => intro ts; rfl
  | cons o a ih => intro ts; simp only [List.cons_append, runT, ih]
theorem vldT_append (a b : List Ro) : ∀ ts, vldT ts (a ++ b) ↔ vldT ts a ∧ vldT (runT ts a).1 b := by
  induction a with
  | nil => intro ts; simp [vldT, runT]
  | cons o a ih => intro ts; simp only [List.cons_append, vldT, runT, ih, and_assoc]
theorem runT_len (l : List Ro) : ∀ ts, (runT ts l).2.length = l.length := by
  induction l with
  | nil => intro ts; rfl
  | cons o l ih => intro ts; simp only [runT, List.length_cons, ih]
theorem lens_otx (os : List (Option T)) : os.map olen = lens (os.map otx) := by simp [lens, olen, Function.comp_def]
theorem rres_len (ts : List (List UInt8)) (o : Ro) (h : rok (lens ts) o) (hl : rlen (lens ts) o ≤ 600) (hs : ∀ t ∈ ts, t.length ≤ 600) : (rres ts o).length ≤ 600 := by
  obtain ⟨q1, q2, q3, q4, q5, q6, q7, q8, q9, q10, q11, q12⟩ := h
  have hg : ∀ i, (lens ts).getD i 0 = (ts.getD i []).length := fun i => by
    rw [List.getD_eq_getElem?_getD, List.getD_eq_getElem?_getD, lens, List.getElem?_map]
    cases ts[i]? <;> rfl
  have hx : ∀ i, (ts.getD i []).length ≤ 600 := fun i => by
    rw [List.getD_eq_getElem?_getD]
    cases h : ts[i]? with
    | none => simp
    | some t => exact hs t (List.mem_of_getElem? h)
  unfold rres
  unfold rlen at hl
  by_cases h1 : o.k = 1
  · rw [if_pos h1]; simpa using q12
  · rw [if_neg h1] at hl ⊢
    by_cases h2 : o.k = 2
    · rw [if_pos h2] at hl ⊢
      rw [hg, hg] at hl
      rw [List.length_append]; exact hl
    · rw [if_neg h2] at hl ⊢
      by_cases h3 : o.k = 3
      · rw [if_pos h3, List.length_take]; have := hx o.a; omega
      · rw [if_neg h3]
        by_cases h4 : o.k = 4
        · rw [if_pos h4, List.length_drop]; have := hx o.a; omega
        · rw [if_neg h4]
          have h5 : o.k = 5 := by omega
          rw [if_pos h5, hg, Nat.mul_comm] at hl
          rw [List.length_flatten, List.map_replicate, List.sum_replicate_nat]
          exact hl
theorem runT_small (l : List Ro) : ∀ ts, vldT ts l → (∀ t ∈ ts, t.length ≤ 600) → ∀ t ∈ (runT ts l).1, t.length ≤ 600 := by
  induction l with
  | nil => intro ts _ h; exact h
  | cons o l ih =>
    intro ts hv h
    refine ih _ hv.2 ?_
    unfold stepT
    split
    · rename_i hl
      intro t ht
      rcases List.mem_append.1 ht with ht | ht
      · exact h t ht
      · simp at ht; subst ht; exact rres_len ts o hv.1 hl h
    · exact h
theorem runT_take (l : List Ro) (k : Nat) (hk : k < l.length) : runT [] (l.take (k + 1)) = ((stepT (runT [] (l.take k)).1 l[k]).1, (runT [] (l.take k)).2 ++ [(stepT (runT [] (l.take k)).1 l[k]).2]) := by
  rw [List.take_succ_eq_append_getElem hk, runT_append]; rfl
theorem own_ptr_blk {w : World} {base : Nat} {e : TypeId} {size n : Nat} {v : Value} {xs : List Value} (h : w.ownsRow base e size v n xs) : v.ownBlock = none ∨ ∃ g cs, v.ownBlock = some g ∧ Blk w g e cs := by
  rcases h.2 with ⟨rfl, _⟩ | ⟨g, cap, cur, rfl, _, hh, _⟩
  · exact .inl rfl
  · exact .inr ⟨g, cur, rfl, hh⟩
def AllP (l : List Ro) (w : World) (e : Ending) (w' : World) : Prop :=
  ∃ (va : Value) (vals : List Value) (os : List (Option T)) (vc : Value), e = .returned (.tuple #[va, vc, .int .i64 0]) ∧ w'.ownsRow w.heap.size 110 1 va os.length vals ∧ (∀ (i : Nat) (o : Option T), os[i]? = some o → ∃ u, vals[i]? = some u ∧ RO w' u o) ∧ (∀ o ∈ os, ook o) ∧
    os.map otx = (runT [] l).1 ∧ w'.ownsRow w.heap.size 28 1 vc l.length (cellsI (runT [] l).2) ∧ Below w.heap.size w w'
set_option maxRecDepth 100000 in
set_option maxHeartbeats 8000000 in
theorem rplay_any (v : Value) (l : List Ro) (w : World) (h : CRow 6 roc w v l) (hl : l.length ≤ 80) (hv : vldT [] l) :
    Calls Try.prog 56 #[v] w (AllP l w) := by
  obtain ⟨A, cap, rfl, h1, h2, hr⟩ := h
  unfold maxLen at h2
  have HV := Lib.hid hv
  have HRD := Lib.hid hr
  have hM0 := Blk.new w 138 #[.slice none 0 0]
  have hb0 := (Below.refl w.heap.size w).alloc (Nat.le_refl _) (.cells #[.slice none 0 0] 138)
  clear hv hr
  go_enter Try.func56, Try.ntmps56
  go_wp2_with fail
  generalize w.alloc (.cells #[.slice none 0 0] 138) = W at *
  go_loopw [6, 16] (fun vc i wr => ∃ (k : Nat) (va : Value) (vals : List Value) (os : List (Option T)), k ≤ l.length ∧ i = .int .i64 k ∧ MK wr w.heap.size w.heap.size va vals os ∧ (∀ o ∈ os, ook o) ∧ os.map otx = (runT [] (l.take k)).1 ∧
    wr.ownsRow w.heap.size 28 1 vc k (cellsI (runT [] (l.take k)).2) ∧ Below w.heap.size w wr) (fun _ i _ => l.length - (intOf i).toNat)
  case atStart => exact ⟨0, _, [], [], Nat.zero_le _, rfl, ⟨hM0, Nat.le_refl _, World.ownsRow_nil _ _ _ _, by simp⟩, by simp, rfl, World.ownsRow_nil _ _ _ _, hb0⟩
  case round =>
    clear hM0 hb0
    obtain ⟨k, va, vals, os, hk, rfl, hm, hok, hts, hc, hb⟩ := hrel
    by_cases hlt : k < l.length
    · obtain ⟨b, o, rfl, hbb, hcell⟩ := (HRD.out.below hb).plain (by omega) (by omega)
      have hx : ∀ j u, (roc l[k])[j]? = some u → wr.cell? ⟨b, o + k * 6 + j, none⟩ = some u := by
        intro j u hu
        have hj : j < 6 := (List.getElem?_eq_some_iff.1 hu).1
        rw [Nat.add_assoc]
        exact hcell _ _ (by rw [cellsOf_at roc_len l k hlt j hj]; exact hu)
      have x0 : wr.cell? ⟨b, o + k * 6, none⟩ = some (.int .i64 (l[k].k : Int)) := hx 0 _ rfl
      have x1 := hx 1 _ rfl
      have x2 := hx 2 _ rfl
      have x3 := hx 3 _ rfl
      have x4 := hx 4 _ rfl
      have x5 := hx 5 _ rfl
      have hbw := Nat.lt_of_lt_of_le hbb hb.size
      have hvt : vldT [] (l.take k) ∧ rok (lens (runT [] (l.take k)).1) l[k] := by
        have h9 := HV.out
        rw [← List.take_append_drop k l, vldT_append, List.drop_eq_getElem_cons hlt] at h9
        exact ⟨h9.1, h9.2.1⟩
      have hsm := runT_small (l.take k) [] hvt.1 (by simp)
      have hol : os.map olen = lens (runT [] (l.take k)).1 := by rw [lens_otx, hts]
      have hrk : rok (os.map olen) l[k] := by rw [hol]; exact hvt.2
      have hs6 : ∀ i (hi : i < os.length), olen os[i] ≤ 600 := fun i hi => hsm (otx os[i]) (by rw [← hts]; exact List.mem_map_of_mem (List.getElem_mem hi))
      have hoki : ∀ i (hi : i < os.length), ook os[i] := fun i hi => hok _ (List.getElem_mem hi)
      have HDO := Lib.hid (fun W (h : MK W w.heap.size w.heap.size va vals os) (hB : w.heap.size ≤ W.heap.size) => do_any w.heap.size w.heap.size va vals os l[k] W h hB hrk hs6 hoki)
      have HRT := Lib.hid (runT_take l k hlt)
      have HTS := Lib.hid hts
      have HOK := Lib.hid hok
      have HOL := Lib.hid hol
      unfold rov at HDO
      have hal := (Below.refl wr.heap.size wr).alloc (Nat.le_refl _) (.cells #[.int .i64 (l[k].k : Int), .string l[k].text, .int .i64 (l[k].a : Int), .int .i64 (l[k].b : Int), .int .i64 (l[k].at_ : Int), .int .i64 (l[k].n : Int)] 66)
      have hm1 := hm.below hal
      have hc1 := own_below hc hal
      have hb1 := bstep hb hal
      have hbs := hb1.size
      obtain ⟨Ac, cc, rfl, hcc1, hcc2⟩ := own_slice hc
      clear hm hok hts hc hb hal hx hcell hvt hsm hol hrk hs6 hoki
      generalize hlk : l[k] = ro at *
      have HLK := Lib.hid hlk
      clear hlk
      go_wp2_with fail
      refine (HDO.out _ hm1 hbs).mono ?_
      rintro e w2 (⟨hrl, rfl, va', vals', o', hm2, hku, htu, hb2, hkp⟩ | ⟨hrl, rfl, hm2, hb2, hkp⟩)
      · have hc2 := own_kp hc1 hkp (by decide) (by decide)
        have hb3 := hb1.trans hb2
        have HKU := Lib.hid (And.intro hku htu)
        have hbs2 := hb3.size
        clear hm1 hc1 hb1 hb2 hkp HDO hku htu x0 x1 x2 x3 x4 x5
        go_wp2_with (at_builtin; refine wpList_appN rfl (.tmp 20) (.tmp 24) _ rfl w.heap.size 28 _ 1 8 Try.underlying86 errno_info rfl (by decide) _ k (cellsI (runT [] (l.take k)).2) rfl hc2 [.int .i64 0] rfl w2.heap.size rfl rfl rfl (by simp [Value.oneCell']) (by omega) (by omega) hbs2 ?_)
        intro v8 w8 ho8 hB8 hg8
        have HB3 := Lib.hid (hB8 _ (Nat.le_refl _) _ hb3)
        have HO3 := Lib.hid ho8
        have hne : ∀ (g : Nat) (t : TypeId) (cs : Array Value), Blk w2 g t cs → t ≠ 28 → some g ≠ (Value.slice Ac k cc).ownBlock := fun g t cs h9 ht e9 => own_blk_ne hc2 h9 (Ne.symm ht) e9.symm
        have HM2 : Hid (MK w8 w.heap.size w.heap.size va' vals' (os ++ [o'])) := Lib.hid (by
          obtain ⟨z1, z2, z3, z4⟩ := hm2
          refine ⟨z1.grown hg8 (hne _ _ _ z1 (by decide)), z2, z3.kept hg8 ?_, fun i o ho => ?_⟩
          · rcases own_ptr_blk z3 with e9 | ⟨g9, cs9, e9, hb9⟩
            · exact .inl e9
            · exact .inr (by rw [e9]; exact hne _ _ _ hb9 (by decide))
          · obtain ⟨u, hu, hr⟩ := z4 i o ho
            exact ⟨u, hu, hr.grown hg8 (fun g t cs h9 ht => hne g t cs h9 (by rcases ht with rfl | rfl <;> decide))⟩)
        clear ho8 hB8 hg8 hne hm2 hc2 hb3
        go_wp2_with fail
        go_roundw
        case rel =>
          have e1 : stepT (runT [] (l.take k)).1 ro = ((runT [] (l.take k)).1 ++ [rres (runT [] (l.take k)).1 ro], 0) := by
            unfold stepT; rw [if_pos (by rw [← HOL.out]; exact hrl)]
          refine ⟨k + 1, va', vals', os ++ [o'], by omega, by go_num, HM2.out, ?_, ?_, ?_, HB3.out⟩
          · intro x hx
            rcases List.mem_append.1 hx with hx | hx
            · exact HOK.out x hx
            · simp at hx; subst hx; exact HKU.out.1
          · rw [HRT.out, List.map_append, HTS.out, e1]
            simp only [List.map_cons, List.map_nil]
            rw [HKU.out.2, HTS.out]
          · rw [HRT.out, e1]
            have e2 : cellsI ((runT [] (l.take k)).2 ++ [0]) = cellsI (runT [] (l.take k)).2 ++ [.int .i64 0] := by simp [cellsI]
            rw [e2]; exact HO3.out
        case measure => simp [intOf]; omega
      · have hku : True := trivial
        have htu : True := trivial
        have hc2 := own_kp hc1 hkp (by decide) (by decide)
        have hb3 := hb1.trans hb2
        have HKU := Lib.hid (And.intro hku htu)
        have hbs2 := hb3.size
        clear hm1 hc1 hb1 hb2 hkp HDO hku htu x0 x1 x2 x3 x4 x5
        go_wp2_with (at_builtin; refine wpList_appN rfl (.tmp 20) (.tmp 24) _ rfl w.heap.size 28 _ 1 8 Try.underlying86 errno_info rfl (by decide) _ k (cellsI (runT [] (l.take k)).2) rfl hc2 [.int .i64 1] rfl w2.heap.size rfl rfl rfl (by simp [Value.oneCell']) (by omega) (by omega) hbs2 ?_)
        intro v8 w8 ho8 hB8 hg8
        have HB3 := Lib.hid (hB8 _ (Nat.le_refl _) _ hb3)
        have HO3 := Lib.hid ho8
        have hne : ∀ (g : Nat) (t : TypeId) (cs : Array Value), Blk w2 g t cs → t ≠ 28 → some g ≠ (Value.slice Ac k cc).ownBlock := fun g t cs h9 ht e9 => own_blk_ne hc2 h9 (Ne.symm ht) e9.symm
        have HM2 : Hid (MK w8 w.heap.size w.heap.size va vals os) := Lib.hid (by
          obtain ⟨z1, z2, z3, z4⟩ := hm2
          refine ⟨z1.grown hg8 (hne _ _ _ z1 (by decide)), z2, z3.kept hg8 ?_, fun i o ho => ?_⟩
          · rcases own_ptr_blk z3 with e9 | ⟨g9, cs9, e9, hb9⟩
            · exact .inl e9
            · exact .inr (by rw [e9]; exact hne _ _ _ hb9 (by decide))
          · obtain ⟨u, hu, hr⟩ := z4 i o ho
            exact ⟨u, hu, hr.grown hg8 (fun g t cs h9 ht => hne g t cs h9 (by rcases ht with rfl | rfl <;> decide))⟩)
        clear ho8 hB8 hg8 hne hm2 hc2 hb3
        go_wp2_with fail
        go_roundw
        case rel =>
          have e1 : stepT (runT [] (l.take k)).1 ro = ((runT [] (l.take k)).1, 1) := by
            unfold stepT; rw [if_neg (by rw [← HOL.out]; omega)]
          refine ⟨k + 1, va, vals, os, by omega, by go_num, HM2.out, HOK.out, ?_, ?_, HB3.out⟩
          · rw [HRT.out, HTS.out, e1]
          · rw [HRT.out, e1]
            have e2 : cellsI ((runT [] (l.take k)).2 ++ [1]) = cellsI (runT [] (l.take k)).2 ++ [.int .i64 1] := by simp [cellsI]
            rw [e2]; exact HO3.out
        case measure => simp [intOf]; omega
    · obtain rfl : k = l.length := by omega
      rw [List.take_length] at hts hc
      have hc0 := hm.c0
      obtain ⟨A1, c1, rfl, hc1, hc2⟩ := own_slice hm.2.2.1
      obtain ⟨Ac, cc, rfl, hcc1, hcc2⟩ := own_slice hc
      have HM := Lib.hid hm
      have HOK := Lib.hid hok
      have HTS := Lib.hid hts
      have HC := Lib.hid hc
      have HB := Lib.hid hb
      clear hm hok hts hc hb
      go_wp2_with fail
      go_ret3
      exact ⟨_, vals, os, _, rfl, HM.out.2.2.1, HM.out.2.2.2, HOK.out, HTS.out, HC.out, HB.out⟩
end Go.Proofs.Ytddbhoilhapljaa
