/-
  The walk of the rope's maker's do.
-/
import Derived.Test.YtddbhoilhapljaaRopeK
import Derived.Test.YtddbhoilhapljaaOff
namespace Go.Proofs.Ytddbhoilhapljaa
open Go.RowKit
set_option linter.unusedVariables false

section
variable {P : Program} {I : World → Prop}
theorem wpR_append_own {w : World} {ops : Array Oper} {Q : Exit → Act → World → Prop} {tail r : List Oper} {o : Oper} {a : Act} (hgd : o.guard = none) (s x : Operand) (t : TypeId)
    (ho : o.op = .call { callee := .builtin .append, args := #[s, x], argTypes := #[t, t] })
    (base : Nat) (e : TypeId) (z : Value) (size bytes : Nat) (ht : P.underlying t = some (.slice e)) (hi : (P.info? e).map (fun i => (i.zero, i.size, i.bytes)) = some (some z, size, bytes)) (hzs : z.cells.size = size) (hsz : 0 < size)
    (v : Value) (n : Nat) (xs : List Value) (hs : a.eval s = v) (hown : w.ownsRow base e size v n xs)
    (B : Nat) (A : Option Addr) (m c : Nat) (news : List Value) (hx : a.eval x = .slice A m c) (hr : Reads w B size A m news) (h1 : ∀ u ∈ news, u.oneCell' = true)
    (h63 : n + m ≤ maxLen) (hbytes : (n + m) * bytes ≤ 140737488355328) (hbase : base ≤ w.heap.size)
    (h : ∀ v' w', w'.ownsRow base e size v' (n + m) (xs ++ news) → w.grownBy w' v.ownBlock → (v'.ownBlock = v.ownBlock ∨ v'.ownBlock = some w.heap.size) → I w' ∧ ∀ w2, Below w'.heap.size w' w2 → I w2 → wpR P ops I Q tail r (a.put o.dst v') w2) : wpR P ops I Q tail (o :: r) a w := by
  obtain ⟨i, hi0, hz0, hzz, hzb⟩ := info_parts hi
  obtain ⟨v', w', hrun, h2, h3, h4⟩ := run_append_any (P := P) w base t o.type e i z size bytes ht hi0 hz0 hzz hzb hzs hsz v n xs hown B A m c news hr h1 h63 hbytes hbase
  have hw : Region.wanted o (yielded ops a.tmps) = true := by simp [Region.wanted, hgd]
  unfold wpR ROp
  rw [if_pos hw]
  unfold execOp
  simp only [ho, resolve, invoke, builtin, Sem.run_bind, Sem.run_pure, Result.andThen_ok, List.map_toArray, List.map_cons, List.map_nil, hs, hx, hrun, RUpon]
  exact h v' w' h2 h3 h4
end
theorem RT.grown {w w' : World} {row : Option Nat} (hg : w.grownBy w' row) (hne : ∀ g t cs, Blk w g t cs → (t = 142 ∨ t = 171) → some g ≠ row) : ∀ {g : Nat} {t : T}, RT w g t → RT w' g t := by
  intro g t
  induction t generalizing g with
  | leaf s => intro h; exact Blk.grown h hg (hne _ _ _ h (.inl rfl))
  | node a b iha ihb =>
    rintro ⟨q, ga, gb, h1, h2, h3, h4⟩
    exact ⟨q, ga, gb, h1.grown hg (hne _ _ _ h1 (.inl rfl)), h2.grown hg (hne _ _ _ h2 (.inr rfl)), iha h3, ihb h4⟩
theorem RO.grown {w w' : World} {row : Option Nat} (hg : w.grownBy w' row) (hne : ∀ g t cs, Blk w g t cs → (t = 142 ∨ t = 171) → some g ≠ row) {v : Value} {o : Option T} (h : RO w v o) : RO w' v o := by
  cases o with
  | none => exact h
  | some t => obtain ⟨g, h1, h2⟩ := h; exact ⟨g, h1, h2.grown hg hne⟩
theorem own_ropes {w : World} {base n : Nat} {v : Value} {xs : List Value} (h : w.ownsRow base 110 1 v n xs) : ∀ (g : Nat) (t : TypeId) (cs : Array Value), Blk w g t cs → (t = 142 ∨ t = 171) → some g ≠ v.ownBlock := by
  intro g t cs hb ht e
  rcases ht with rfl | rfl
  · exact own_blk_ne h hb (by decide) e.symm
  · exact own_blk_ne h hb (by decide) e.symm
/-- A store into the maker leaves the ropes. -/
theorem RT.far {w : World} {M : Nat} {cs : Array Value} {u : Value} (hM : Blk w M 138 cs) : ∀ {g : Nat} {t : T}, RT w g t → RT (w.setCell ⟨M, 0, none⟩ u) g t := by
  intro g t
  induction t generalizing g with
  | leaf s => intro h; exact Blk.far (p := ⟨M, 0, none⟩) h (Blk.ne_ h hM (by decide)) u
  | node a b iha ihb =>
    rintro ⟨q, ga, gb, h1, h2, h3, h4⟩
    exact ⟨q, ga, gb, h1.far (p := ⟨M, 0, none⟩) (Blk.ne_ h1 hM (by decide)) u, h2.far (p := ⟨M, 0, none⟩) (Blk.ne_ h2 hM (by decide)) u, iha h3, ihb h4⟩
theorem RO.far {w : World} {M : Nat} {cs : Array Value} {u v : Value} {o : Option T} (hM : Blk w M 138 cs) (h : RO w v o) : RO (w.setCell ⟨M, 0, none⟩ u) v o := by
  cases o with
  | none => exact h
  | some t => obtain ⟨g, h1, h2⟩ := h; exact ⟨g, h1, h2.far hM⟩
/-- What is no row of ropes and no maker is kept. -/
def KP (w w' : World) : Prop := ∀ (g : Nat) (cs : Array Value) (t : TypeId) (fz : Nat × Nat), w.heap[g]? = some (.cells cs t fz) → t ≠ 110 → t ≠ 138 → w'.heap[g]? = some (.cells cs t fz)
theorem KP.trans {a b c : World} (h : KP a b) (k : KP b c) : KP a c := fun g cs t fz e h1 h2 => k g cs t fz (h g cs t fz e h1 h2) h1 h2
theorem KP.below {w w' : World} (hb : Below w.heap.size w w') : KP w w' := fun g cs t fz h _ _ => (hb.block g (Array.getElem?_eq_some_iff.1 h).1).trans h
theorem KP.own {w w' : World} {base n : Nat} {v : Value} {xs : List Value} (h : w.ownsRow base 110 1 v n xs) (hg : w.grownBy w' v.ownBlock) : KP w w' := by
  intro g cs t fz e h1 _
  refine (hg.block g (Array.getElem?_eq_some_iff.1 e).1 ?_).trans e
  intro e2
  rcases h.2 with ⟨rfl, _⟩ | ⟨g', cap, cur, rfl, _, hh, _⟩
  · simp [Value.ownBlock] at e2
  · simp only [Value.ownBlock] at e2
    injection e2 with e2
    subst e2
    rw [hh] at e
    injection e with e
    injection e with _ a2 _
    exact h1 a2.symm
theorem KP.set {w : World} {M : Nat} {cs : Array Value} {u : Value} (hM : Blk w M 138 cs) : KP w (w.setCell ⟨M, 0, none⟩ u) := by
  intro g cs' t fz e _ h2
  refine (Below.heap_setCell w ⟨M, 0, none⟩ u g ?_).trans e
  intro e2
  have e3 : g = M := e2
  subst e3
  unfold Blk at hM
  rw [hM] at e
  injection e with e
  injection e with _ a2 _
  exact h2 a2.symm
theorem own_kp {w w' : World} {base n size : Nat} {e : TypeId} {v : Value} {xs : List Value} (h : w.ownsRow base e size v n xs) (hk : KP w w') (h1 : e ≠ 110) (h2 : e ≠ 138) : w'.ownsRow base e size v n xs := by
  rcases h.2 with ⟨rfl, hn⟩ | ⟨g, cap, cur, rfl, hb, hh, rest⟩
  · exact ⟨h.1, .inl ⟨rfl, hn⟩⟩
  · exact ⟨h.1, .inr ⟨g, cap, cur, rfl, hb, hk g _ _ _ hh h1 h2, rest⟩⟩
def DoP (B M : Nat) (v : Value) (vals : List Value) (os : List (Option T)) (o : Ro) (w : World) (e : Ending) (w' : World) : Prop :=
  (rlen (os.map olen) o ≤ 600 ∧ e = .returned (.int .i64 0) ∧ ∃ v' vals' o', MK w' B M v' vals' (os ++ [o']) ∧ ook o' ∧ otx o' = rres (os.map otx) o ∧ Below B w w' ∧ KP w w') ∨
  (600 < rlen (os.map olen) o ∧ e = .returned (.int .i64 1) ∧ MK w' B M v vals os ∧ Below B w w' ∧ KP w w')
theorem mk_push {w w' : World} {B M : Nat} {v v' u : Value} {vals : List Value} {os : List (Option T)} {o : Option T} (h : MK w B M v vals os) (hu : RO w u o) (hB : B ≤ w.heap.size)
    (hown : w'.ownsRow B 110 1 v' (os.length + 1) (vals ++ [u])) (hg : w.grownBy w' v.ownBlock) :
    MK (w'.setCell ⟨M, 0, none⟩ v') B M v' (vals ++ [u]) (os ++ [o]) := by
  obtain ⟨h1, h2, h3, h4⟩ := h
  have hM' := h1.grown hg (fun e => own_blk_ne h3 h1 (by decide) e.symm)
  have hvl : vals.length = os.length := by have := h3.1; omega
  refine ⟨?_, h2, ?_, ?_⟩
  · exact hM'.set_ 0 v'
  · rw [List.length_append]
    exact hown.kept (grown_set w' ⟨M, 0, none⟩ v') (by
      by_cases e : v'.ownBlock = none
      · exact .inl e
      · refine .inr ?_
        intro e2
        exact own_blk_ne hown hM' (by decide) e2)
  · intro i p hp
    rcases Nat.lt_or_ge i os.length with hi | hi
    · rw [List.getElem?_append_left hi] at hp
      obtain ⟨x, hx, hr⟩ := h4 i p hp
      exact ⟨x, by rw [List.getElem?_append_left (by omega)]; exact hx, (hr.grown hg (own_ropes h3)).far hM'⟩
    · rw [List.getElem?_append_right hi] at hp
      have hi0 : i - os.length = 0 := by
        have := (List.getElem?_eq_some_iff.1 hp).1
        simp at this; omega
      rw [hi0] at hp
      simp at hp
      subst hp
      refine ⟨u, by rw [List.getElem?_append_right (by omega), hvl, hi0]; rfl, (hu.grown hg (own_ropes h3)).far hM'⟩
set_option maxRecDepth 100000 in
set_option maxHeartbeats 8000000 in
theorem do_any (B M : Nat) (v : Value) (vals : List Value) (os : List (Option T)) (o : Ro) (w : World) (h : MK w B M v vals os) (hB : B ≤ w.heap.size) (ho : rok (os.map olen) o) (hs : ∀ i (hi : i < os.length), olen os[i] ≤ 600) (hk : ∀ i (hi : i < os.length), ook os[i]) :
    Calls Try.prog 81 #[.pointer (some ⟨M, 0, none⟩), rov o] w (DoP B M v vals os o w) := by
  have HF := Lib.hid (fun W (h : MK W B M v vals os) => rfault_any B M v vals os o W h ho)
  have HL := Lib.hid (fun W (h : MK W B M v vals os) => rlength_any B M v vals os o W h ho hs)
  have HM := Lib.hid (fun W (h : MK W B M v vals os) (hl : rlen (os.map olen) o ≤ 600) => rmake_any B M v vals os o W h ho hs hk hl)
  have hl60 : os.length < 60 := by have := ho.2.2.2.2.2.2.1; simpa using this
  have HMP : Hid (MakeP (os.map otx) o = MakeP (os.map otx) o) := Lib.hid rfl
  have hD := Blk.new w 66 #[.int .i64 (o.k : Int), .string o.text, .int .i64 (o.a : Int), .int .i64 (o.b : Int), .int .i64 (o.at_ : Int), .int .i64 (o.n : Int)]
  have hal := (Below.refl w.heap.size w).alloc (Nat.le_refl _) (.cells #[.int .i64 (o.k : Int), .string o.text, .int .i64 (o.a : Int), .int .i64 (o.b : Int), .int .i64 (o.at_ : Int), .int .i64 (o.n : Int)] 66)
  have hm1 := h.below hal
  have HRL := Lib.hid (show rlen (os.map olen) o = rlen (os.map olen) o from rfl)
  generalize hR : rlen (os.map olen) o = R at *
  have HR := Lib.hid hR
  clear h ho hs hk hR
  unfold rov at HF HL HM ⊢
  generalize (o.k : Int) = ok at *
  generalize o.text = otxt at *
  generalize (o.a : Int) = oa at *
  generalize (o.b : Int) = ob at *
  generalize (o.at_ : Int) = oat at *
  generalize (o.n : Int) = on at *
  go_enter Try.func81, Try.ntmps81
  go_wp2_with fail
  refine (HF.out _ hm1).mono ?_
  rintro e w1 ⟨rfl, hb1⟩
  have hD1 := hD.below hb1 hD.lt
  have hm2 := hm1.below hb1
  have hbw1 := hal.trans (hb1.mono hal.size)
  have x0 : w1.cell? ⟨w.heap.size, 0, none⟩ = some (.int .i64 ok) := by rw [hD1.cell]; rfl
  have x1 : w1.cell? ⟨w.heap.size, 1, none⟩ = some (.string otxt) := by rw [hD1.cell]; rfl
  have x2 : w1.cell? ⟨w.heap.size, 2, none⟩ = some (.int .i64 oa) := by rw [hD1.cell]; rfl
  have x3 : w1.cell? ⟨w.heap.size, 3, none⟩ = some (.int .i64 ob) := by rw [hD1.cell]; rfl
  have x4 : w1.cell? ⟨w.heap.size, 4, none⟩ = some (.int .i64 oat) := by rw [hD1.cell]; rfl
  have x5 : w1.cell? ⟨w.heap.size, 5, none⟩ = some (.int .i64 on) := by rw [hD1.cell]; rfl
  clear hD hm1 hb1 hal
  go_wp2_with fail
  refine (HL.out _ hm2).mono ?_
  rintro e w2 ⟨rfl, hb2⟩
  have hD2 := hD1.below hb2 hD1.lt
  have hm3 := hm2.below hb2
  have hbw2 := bstep hbw1 hb2
  clear hD1 hm2 hb2 hbw1 x0 x1 x2 x3 x4 x5
  by_cases hR6 : R ≤ 600
  · have hRi : ¬ (600 : Int) < (R : Int) := by omega
    have hRd : decide ((600 : Int) < (R : Int)) = false := by rw [decide_eq_false_iff_not]; exact hRi
    go_wp2_with fail
    have hI0 : Kept [(M, 0, v), (w.heap.size, 0, .int .i64 ok), (w.heap.size, 1, .string otxt), (w.heap.size, 2, .int .i64 oa), (w.heap.size, 3, .int .i64 ob), (w.heap.size, 4, .int .i64 oat), (w.heap.size, 5, .int .i64 on)] w2 := fun x hx => by
      simp only [List.mem_cons, List.not_mem_nil, or_false] at hx
      rcases hx with rfl | rfl | rfl | rfl | rfl | rfl | rfl
      · exact hm3.c0
      all_goals (rw [hD2.cell]; rfl)
    refine wp_region_mix 7 3 (Kept [(M, 0, v), (w.heap.size, 0, .int .i64 ok), (w.heap.size, 1, .string otxt), (w.heap.size, 2, .int .i64 oa), (w.heap.size, 3, .int .i64 ob), (w.heap.size, 4, .int .i64 oat), (w.heap.size, 5, .int .i64 on)]) (by kernel_rfl) (by kernel_rfl) (fun _ _ h1 h2 => h1.below h2) hI0 ?_
    intro ι F hne hF
    have c0F : ∀ i, (F i).cell? ⟨M, 0, none⟩ = some v := fun i => hF i (M, 0, v) (by simp)
    have d0F : ∀ i, (F i).cell? ⟨w.heap.size, 0, none⟩ = some (.int .i64 ok) := fun i => hF i (w.heap.size, 0, .int .i64 ok) (by simp)
    have d1F : ∀ i, (F i).cell? ⟨w.heap.size, 1, none⟩ = some (.string otxt) := fun i => hF i (w.heap.size, 1, .string otxt) (by simp)
    have d2F : ∀ i, (F i).cell? ⟨w.heap.size, 2, none⟩ = some (.int .i64 oa) := fun i => hF i (w.heap.size, 2, .int .i64 oa) (by simp)
    have d3F : ∀ i, (F i).cell? ⟨w.heap.size, 3, none⟩ = some (.int .i64 ob) := fun i => hF i (w.heap.size, 3, .int .i64 ob) (by simp)
    have d4F : ∀ i, (F i).cell? ⟨w.heap.size, 4, none⟩ = some (.int .i64 oat) := fun i => hF i (w.heap.size, 4, .int .i64 oat) (by simp)
    have d5F : ∀ i, (F i).cell? ⟨w.heap.size, 5, none⟩ = some (.int .i64 on) := fun i => hF i (w.heap.size, 5, .int .i64 on) (by simp)
    simp only [List.take_succ_cons, List.take_zero, List.drop_succ_cons, List.drop_zero]
    repeat (refine wpB_step (fun K hK => ?_); go_simp; first | (refine hK _ ?_; clear hK K) | (apply Exists.intro; refine ⟨fun _ => ?_, hK _ ?_⟩; (fail); clear hK K))
    refine wpB_nil ?_
    intro w3 hw3 hI3
    clear c0F d0F d1F d2F d3F d4F d5F hF
    have hm4 := hm3.below hw3
    have hbw3 := bstep hbw2 hw3
    have hD3 := hD2.below hw3 hD2.lt
    clear hm3 hw3 hbw2 hD2 hI0
    refine wpR_step (fun K hK => ?_)
    go_simp
    refine (HM.out _ hm4 hR6).mono ?_
    rintro e w4 ⟨u, o', rfl, hu, hku, htu, hb4⟩
    obtain ⟨pu, rfl⟩ := hu.shape
    refine ⟨_, rfl, hK _ _ ⟨hI3.below hb4, ?_⟩⟩
    clear hK K
    intro w5 hw5 hI5
    have hm5 := (hm4.below hb4).below hw5
    have hu5 := hu.below hw5
    have hbw5 := bstep (bstep hbw3 hb4) hw5
    have hD5 := (hD3.below hb4 hD3.lt).below hw5 (hD3.below hb4 hD3.lt).lt
    clear hm4 hb4 hw5 hu hbw3 hI3 hD3
    (refine wpR_step (fun K hK => ?_); go_simp; refine hK _ _ ⟨hI5.alloc _, ?_⟩; clear hK K)
    intro w6 hw6 hI6
    have hal5 := (Below.refl w5.heap.size w5).alloc (Nat.le_refl _) (.cells #[.pointer pu] 110)
    have hm6 := (hm5.below hal5).below hw6
    have hu6 := (hu5.below hal5).below hw6
    have hbw6 := bstep (bstep hbw5 hal5) hw6
    have hr6 := (Reads.news w5 [.pointer pu] 110 1 1 rfl).below hw6
    have hBs : B ≤ w6.heap.size := Nat.le_trans hB hbw6.size
    have hD6 := (hD5.below hal5 hD5.lt).below hw6 (hD5.below hal5 hD5.lt).lt
    clear hm5 hal5 hw6 hu5 hbw5 hI5 hD5
    refine wpR_append_own rfl (.tmp 20) (.tmp 24) _ rfl B 110 _ 1 8 Try.underlying107 ptr_info rfl (by decide) v os.length vals rfl hm6.2.2.1 _ (some ⟨w5.heap.size, 0, none⟩) 1 1 [.pointer pu] rfl hr6 (by simp [Value.oneCell']) (by unfold maxLen; omega) (by omega) hBs ?_
    intro v' w7 ho7 hg7 hat7
    have hvM : v.ownBlock ≠ some M := own_blk_ne hm6.2.2.1 hm6.1 (by decide)
    have hvD : v.ownBlock ≠ some w.heap.size := own_blk_ne hm6.2.2.1 hD6 (by decide)
    refine ⟨hI6.grown hg7 (fun x hx => by
      simp only [List.mem_cons, List.not_mem_nil, or_false] at hx
      rcases hx with rfl | rfl | rfl | rfl | rfl | rfl | rfl
      · exact Ne.symm hvM
      all_goals exact Ne.symm hvD), ?_⟩
    intro w8 hw8 hI8
    refine wpR_nil ?_
    have hM7 := hm6.1.grown hg7 (Ne.symm hvM)
    have hM8 := hM7.below hw8 hM7.lt
    have hg8 : w6.grownBy w8 v.ownBlock := hg7.trans (grown_of_below hw8 _)
    have ho8 := own_below ho7 hw8
    have hmp := mk_push hm6 hu6 hBs ho8 hg8
    have hlt6 := hm6.2.2.1.lt
    have hBM := hm6.2.1
    have hb8 : Below B w (w8.setCell ⟨M, 0, none⟩ v') := ((hbw6.mono hB).grown hg8 hBs (fun g e => (hlt6 g e).1)).setCell (p := ⟨M, 0, none⟩) hBM _
    have r0 := hI8 (M, 0, v) (by simp)
    have rf := hM8.frozen 0
    have hkp := ((KP.below hbw6).trans (KP.own hm6.2.2.1 hg8)).trans (KP.set (u := v') hM8)
    obtain ⟨A8, c8, rfl, hc8, hc9⟩ := own_slice ho8
    have HMP := Lib.hid hmp
    have HB8 := Lib.hid hb8
    have HKU := Lib.hid (And.intro hku htu)
    have HKP := Lib.hid hkp
    clear hm6 hu6 hbw6 hr6 hD6 hI6 hg7 ho7 hat7 hM7 hM8 hw8 hI8 hg8 ho8 hmp hb8 hku htu hlt6 hkp
    go_wp2_with fail
    go_ret
    exact .inl ⟨by rw [HR.out]; exact hR6, rfl, _, _, o', HMP.out, HKU.out.1, HKU.out.2, HB8.out, HKP.out⟩
  · have hRi : (600 : Int) < (R : Int) := by omega
    have HMK := Lib.hid hm3
    have HB2 := Lib.hid (hbw2.mono hB)
    have HK2 := Lib.hid (KP.below hbw2)
    clear hm3 hbw2 hD2
    go_wp2_with fail
    go_ret
    exact .inr ⟨by rw [HR.out]; omega, rfl, HMK.out, HB2.out, HK2.out⟩
end Go.Proofs.Ytddbhoilhapljaa
