/-
  The walk of rope.Split.
-/
import Derived.Test.YtddbhoilhapljaaRopeS
namespace Go.Proofs.Ytddbhoilhapljaa
open Go.RowKit
set_option linter.unusedVariables false

def SplitPost (l : List UInt8) (k : Nat) (w : World) (e : Ending) (w' : World) : Prop :=
  ∃ v1 v2 o1 o2, e = .returned (.tuple #[v1, v2]) ∧ RO w' v1 o1 ∧ RO w' v2 o2 ∧ ook o1 ∧ ook o2 ∧ otx o1 = l.take k ∧ otx o2 = l.drop k ∧ Below w.heap.size w w'
theorem RO.mk {w : World} {g : Nat} {t : T} (h : RT w g t) : RO w (.pointer (some ⟨g, 0, none⟩)) (some t) := ⟨g, rfl, h⟩
theorem RO.shape {w : World} {v : Value} {o : Option T} (h : RO w v o) : ∃ p, v = .pointer p := by
  cases o with
  | none => exact ⟨none, h⟩
  | some t => obtain ⟨g, h1, _⟩ := h; exact ⟨_, h1⟩
set_option maxRecDepth 100000 in
set_option maxHeartbeats 4000000 in
theorem split_rec (t : T) : ∀ (g k : Nat) (w : World), RT w g t → t.ok → t.tx.length ≤ 600 → k ≤ 100000 →
    Calls Try.prog 109 #[.pointer (some ⟨g, 0, none⟩), .int .i64 (k : Int)] w (SplitPost t.tx k w) := by
  induction t with
  | leaf s =>
    intro g k w hr ho hl hk
    have HR := Lib.hid hr
    have HO := Lib.hid ho
    have HLN := Lib.hid (fun W (h : RO W (.pointer (some ⟨g, 0, none⟩)) (some (.leaf s))) => ropeLen_any _ _ W h)
    have hsz : s.size ≤ 600 := by have h9 := hl; simp only [T.tx] at h9; simpa using h9
    have HTX : Hid ((T.leaf s).tx = s.data.toList) := Lib.hid rfl
    have hle : ((otx (some (.leaf s))).length : Int) = (s.size : Int) := by simp [otx, T.tx]
    by_cases hk0 : k = 0
    · subst hk0
      clear hr ho hl
      go_enter Try.func109, Try.ntmps109
      go_wp2_with fail
      go_ret2
      exact ⟨_, _, none, some _, rfl, rfl, RO.mk HR.out, trivial, HO.out, by simp [otx], by simp [otx], Below.refl _ _⟩
    · by_cases hkl : s.size ≤ k
      · clear hr ho hl
        rw [hle] at HLN
        go_enter Try.func109, Try.ntmps109
        go_wp2_with (go_at_call 86; refine (HLN.out _ (RO.mk HR.out)).mono ?_; rintro e w' ⟨rfl, rfl⟩)
        go_ret2
        refine ⟨_, _, some _, none, rfl, RO.mk HR.out, rfl, HO.out, trivial, ?_, ?_, Below.refl _ _⟩
        · rw [HTX.out]; simp only [otx, HTX.out]; rw [List.take_of_length_le (by simpa using hkl)]
        · rw [HTX.out]; simp only [otx]; rw [List.drop_of_length_le (by simpa using hkl)]
      · obtain ⟨a0, a1, a2⟩ := hr.lf
        have hga := hr.lt
        obtain ⟨e1, e2⟩ := ext_sizes s k (by omega)
        obtain ⟨x1, x2⟩ := ext_tx s k (by omega)
        have L1 := Lib.hid (fun W => leaf_any (s.extract 0 k) W (by omega))
        have L2 := Lib.hid (fun W => leaf_any (s.extract k s.size) W (by omega))
        have HF : Hid ((T.leaf (s.extract 0 k)).ok ∧ (T.leaf (s.extract k s.size)).ok ∧ (T.leaf (s.extract 0 k)).tx = s.data.toList.take k ∧ (T.leaf (s.extract k s.size)).tx = s.data.toList.drop k) := Lib.hid ⟨show 0 < (s.extract 0 k).size by omega, show 0 < (s.extract k s.size).size by omega, x1, x2⟩
        have hk1 : (k : Int) ≤ (s.size : Int) := by omega
        have hk2 : (0 : Int) ≤ (k : Int) := by omega
        rw [hle] at HLN
        clear hr ho hl e1 e2 x1 x2 a2
        go_enter Try.func109, Try.ntmps109
        go_wp2_with (go_at_call 86; refine (HLN.out _ (RO.mk HR.out)).mono ?_; rintro e w' ⟨rfl, rfl⟩)
        refine wp_region_ph [([0, 1, 2, 3, 4, 5, 7, 8, 9, 10, 11, 12], [6, 13]), ([14, 15], [])] (fun w' => Below w.heap.size w w') (by kernel_rfl) (by kernel_rfl) (fun _ _ h1 h2 => bstep h1 h2) (by repeat' (first | exact Below.refl _ _ | apply below_drewN)) ?_
        intro ι F hne hF W0 hW0 hI0
        have s1F : ∀ i, (F i).cell? ⟨g, 0, none⟩ = some (.string s) := fun i => ((hF i).cell (p := ⟨g, 0, none⟩) hga).trans a0
        (refine wpPh_cons ?_; simp only [pickOps, List.getElem?_cons_succ, List.getElem?_cons_zero])
        repeat (refine wpB_step (fun K hK => ?_); go_simp; first | (refine hK _ ?_; clear hK K) | (apply Exists.intro; refine ⟨fun _ => ?_, hK _ ?_⟩; (fail); clear hK K))
        refine wpB_nil ?_
        intro w3 hw3 hI3
        clear s1F
        refine wpRB_step (fun K hK => ?_)
        go_simp
        refine (L1.out w3).mono ?_
        rintro e w4 ⟨g4, rfl, hr4, hb4⟩
        refine ⟨_, rfl, hK _ _ ⟨bstep hI3 hb4, ?_⟩⟩
        clear hK K
        intro w5 hw5 hI5
        have hr5 := hr4.below hw5
        clear hr4 hb4 hw5 hw3 hI3
        refine wpRB_step (fun K hK => ?_)
        go_simp
        refine (L2.out w5).mono ?_
        rintro e w6 ⟨g6, rfl, hr6, hb6⟩
        refine ⟨_, rfl, hK _ _ ⟨bstep hI5 hb6, ?_⟩⟩
        clear hK K
        intro w7 hw7 hI7
        have hr7 := hr6.below hw7
        have hq7 := (hr5.below hb6).below hw7
        clear hr6 hb6 hw7 hr5 hI5
        refine wpRB_nil ?_
        (refine wpPh_cons ?_; simp only [pickOps, List.getElem?_cons_succ, List.getElem?_cons_zero])
        repeat (refine wpB_step (fun K hK => ?_); go_simp; first | (refine hK _ ?_; clear hK K) | (apply Exists.intro; refine ⟨fun _ => ?_, hK _ ?_⟩; (fail); clear hK K))
        refine wpB_nil ?_
        intro w10 hw10 hI10
        have HR10 := Lib.hid (hr7.below hw10)
        have HQ10 := Lib.hid (hq7.below hw10)
        have HI10 := Lib.hid hI10
        clear hr7 hq7 hw10 hI7
        refine wpRB_nil ?_
        refine wpPh_nil ?_
        clear hF hne F hI0 hW0 hI10
        go_wp2_with fail
        go_ret2
        exact ⟨_, _, some _, some _, rfl, RO.mk HQ10.out, RO.mk HR10.out, HF.out.1, HF.out.2.1, HF.out.2.2.1, HF.out.2.2.2, HI10.out⟩
  | node a b iha ihb =>
    intro g k w hr ho hl hk
    have HR := Lib.hid hr
    have HO := Lib.hid ho
    have HLN := Lib.hid (fun W (h : RO W (.pointer (some ⟨g, 0, none⟩)) (some (.node a b))) => ropeLen_any _ _ W h)
    have HTX : Hid ((T.node a b).tx = a.tx ++ b.tx) := Lib.hid rfl
    have hle : ((otx (some (.node a b))).length : Int) = ((a.tx.length + b.tx.length : Nat) : Int) := by simp [otx, T.tx]
    have hl2 : a.tx.length + b.tx.length ≤ 600 := by have h9 := hl; simp only [T.tx, List.length_append] at h9; exact h9
    rw [hle] at HLN
    by_cases hk0 : k = 0
    · subst hk0
      clear hr ho hl iha ihb
      go_enter Try.func109, Try.ntmps109
      go_wp2_with fail
      go_ret2
      exact ⟨_, _, none, some _, rfl, rfl, RO.mk HR.out, trivial, HO.out, by simp [otx], by simp [otx], Below.refl _ _⟩
    · by_cases hkl : a.tx.length + b.tx.length ≤ k
      · clear hr ho hl iha ihb
        go_enter Try.func109, Try.ntmps109
        go_wp2_with (go_at_call 86; refine (HLN.out _ (RO.mk HR.out)).mono ?_; rintro e w' ⟨rfl, rfl⟩)
        go_ret2
        refine ⟨_, _, some _, none, rfl, RO.mk HR.out, rfl, HO.out, trivial, ?_, ?_, Below.refl _ _⟩
        · simp only [otx, HTX.out]; rw [List.take_of_length_le (by simpa using hkl)]
        · rw [HTX.out]; simp only [otx]; rw [List.drop_of_length_le (by simpa using hkl)]
      · obtain ⟨q, ga, gb, p1, p2, p3, hga, hq, hx, hy⟩ := hr.nd
        have HX := Lib.hid hx
        have HY := Lib.hid hy
        have OA := Lib.hid ho.1
        have OB := Lib.hid ho.2.1
        have HLA := Lib.hid (fun W (h : RO W (.pointer (some ⟨ga, 0, none⟩)) (some a)) => ropeLen_any _ _ W h)
        have IA := Lib.hid (fun W (h : RT W ga a) => iha ga k W h ho.1 (by omega) hk)
        have IB := Lib.hid (fun W (h : RT W gb b) => ihb gb (k - a.tx.length) W h ho.2.1 (by omega) (by omega))
        have hoa : ((otx (some a)).length : Int) = (a.tx.length : Int) := rfl
        rw [hoa] at HLA
        clear hr ho hl iha ihb hx hy
        go_enter Try.func109, Try.ntmps109
        go_wp2_with (go_at_call 86; refine (HLN.out _ (RO.mk HR.out)).mono ?_; rintro e w' ⟨rfl, rfl⟩)
        go_quiet (fail)
        have HD := Lib.hid (below_drewN (Below.refl w.heap.size w) nq)
        by_cases hka : k ≤ a.tx.length
        · have hki : (k : Int) ≤ (a.tx.length : Int) := by omega
          go_wp2_with (go_at_call 86; refine (HLA.out _ (RO.mk (HX.out.below HD.out))).mono ?_; rintro e w' ⟨rfl, rfl⟩)
          refine (IA.out _ (HX.out.below HD.out)).mono ?_
          rintro e w1 ⟨v1, v2, o1, o2, rfl, hr1, hr2, hk1, hk2, ht1, ht2, hb1⟩
          have HB1 := Lib.hid (bstep HD.out hb1)
          obtain ⟨pv1, rfl⟩ := hr1.shape
          obtain ⟨pv2, rfl⟩ := hr2.shape
          have HJN := Lib.hid (join_any _ _ o2 (some b) w1 hr2 (RO.mk (HY.out.below HB1.out)) hk2 OB.out (by rw [ht2]; simp only [List.length_drop, otx]; omega))
          have H1 := Lib.hid (And.intro hr1 (And.intro hk1 (And.intro ht1 ht2)))
          clear hr1 hr2 hk1 hk2 ht1 ht2 hb1
          go_wp2_with fail
          refine HJN.out.mono ?_
          rintro e w2 ⟨v3, o3, rfl, hr3, hk3, ht3, hb3⟩
          have HB3 := Lib.hid (bstep HB1.out hb3)
          have HV1 := Lib.hid (H1.out.1.below hb3)
          obtain ⟨pv3, rfl⟩ := hr3.shape
          have H3 := Lib.hid (And.intro hr3 (And.intro hk3 ht3))
          clear hr3 hk3 ht3 hb3
          go_wp2_with fail
          go_ret2
          refine ⟨_, _, o1, o3, rfl, HV1.out, H3.out.1, H1.out.2.1, H3.out.2.1, ?_, ?_, HB3.out⟩
          · rw [HTX.out, H1.out.2.2.1, List.take_append_of_le_length hka]
          · rw [HTX.out, H3.out.2.2, H1.out.2.2.2, List.drop_append_of_le_length hka]; rfl
        · have hki : ¬ (k : Int) ≤ (a.tx.length : Int) := by omega
          have hks : (k : Int) - (a.tx.length : Int) = ((k - a.tx.length : Nat) : Int) := by omega
          go_wp2_with (go_at_call 86; refine (HLA.out _ (RO.mk (HX.out.below HD.out))).mono ?_; rintro e w' ⟨rfl, rfl⟩)
          refine (IB.out _ (HY.out.below HD.out)).mono ?_
          rintro e w1 ⟨v1, v2, o1, o2, rfl, hr1, hr2, hk1, hk2, ht1, ht2, hb1⟩
          have HB1 := Lib.hid (bstep HD.out hb1)
          obtain ⟨pv1, rfl⟩ := hr1.shape
          obtain ⟨pv2, rfl⟩ := hr2.shape
          have HJN := Lib.hid (join_any _ _ (some a) o1 w1 (RO.mk (HX.out.below HB1.out)) hr1 OA.out hk1 (by rw [ht1]; simp only [List.length_take, otx]; omega))
          have H1 := Lib.hid (And.intro hr2 (And.intro hk2 (And.intro ht1 ht2)))
          clear hr1 hr2 hk1 hk2 ht1 ht2 hb1 hks
          go_wp2_with fail
          refine HJN.out.mono ?_
          rintro e w2 ⟨v3, o3, rfl, hr3, hk3, ht3, hb3⟩
          have HB3 := Lib.hid (bstep HB1.out hb3)
          have HV1 := Lib.hid (H1.out.1.below hb3)
          obtain ⟨pv3, rfl⟩ := hr3.shape
          have H3 := Lib.hid (And.intro hr3 (And.intro hk3 ht3))
          clear hr3 hk3 ht3 hb3
          go_wp2_with fail
          go_ret2
          refine ⟨_, _, o3, o2, rfl, H3.out.1, HV1.out, H3.out.2.1, H1.out.2.1, ?_, ?_, HB3.out⟩
          · rw [HTX.out, H3.out.2.2, H1.out.2.2.1, List.take_append, List.take_of_length_le (l := a.tx) (by omega)]; rfl
          · rw [HTX.out, H1.out.2.2.2, List.drop_append, List.drop_of_length_le (l := a.tx) (by omega)]; rfl
def SplitO (o : Option T) (k : Nat) (w : World) := SplitPost (otx o) k w
theorem split_any (v : Value) (o : Option T) (k : Nat) (w : World) (h : RO w v o) (ho : ook o) (hl : (otx o).length ≤ 600) (hk : k ≤ 600) (hn : o = none → k = 0) :
    Calls Try.prog 109 #[v, .int .i64 (k : Int)] w (SplitPost (otx o) k w) := by
  cases o with
  | none =>
    obtain rfl := hn rfl
    have h' : v = .pointer none := h
    subst h'
    clear h ho hl hk hn
    go_enter Try.func109, Try.ntmps109
    go_wp2_with fail
    go_ret2
    exact ⟨_, _, none, none, rfl, rfl, rfl, trivial, trivial, rfl, rfl, Below.refl _ _⟩
  | some t =>
    obtain ⟨g, rfl, hr⟩ := h
    exact split_rec t g k w hr ho hl (by omega)
end Go.Proofs.Ytddbhoilhapljaa
