/-
  The walks of sched.Play, Jobs and turned. Nothing that was there is changed.
-/
import Derived.Test.YtifjahfolmhhpaaSched
import Derived.BigQuiet
import Derived.Deep.QuietTactic
namespace Go.Proofs.Ytifjahfolmhhpaa
open Go.RowKit Sch
set_option linter.unusedVariables false

theorem run_bd (js : List Jb) (hj : ∀ j ∈ js, okj j) : (run ⟨0, []⟩ js).next ≤ js.length ∧ (run ⟨0, []⟩ js).ts.length ≤ js.length ∧ ∀ x ∈ (run ⟨0, []⟩ js).ts, x.1 < js.length ∧ x.2 ≤ 600 := by
  induction js using snoc_ind with
  | h0 => simp [run]
  | h1 l j ih =>
    obtain ⟨i1, i2, i3⟩ := ih (fun x hx => hj x (by simp [hx]))
    have ho := hj j (by simp)
    rw [run_snoc]
    generalize run ⟨0, []⟩ l = s at *
    rcases j with ⟨p, n⟩
    cases p
    · unfold stp
      rcases hs : s.ts with _ | ⟨⟨t, q⟩, r⟩
      · simp [hs]; omega
      · rw [hs] at i2 i3
        have h0 := i3 (t, q) (by simp)
        simp only at h0
        simp only [Bool.false_eq_true, if_false, List.length_append, List.length_cons, List.length_nil]
        refine ⟨by omega, ?_, ?_⟩
        · split
          · simp at i2 ⊢; omega
          · simp at i2 ⊢; omega
        · intro x hx
          split at hx
          · rcases List.mem_append.1 hx with h | h
            · have := i3 x (by simp [h]); omega
            · simp at h; subst h; simp only; omega
          · have := i3 x (by simp [hx]); omega
    · have ho' : n ≤ 600 := ho
      unfold stp
      simp only [if_true, List.length_append, List.length_cons, List.length_nil]
      refine ⟨by omega, ?_, ?_⟩
      · split
        · simp; omega
        · omega
      · intro x hx
        split at hx
        · rcases List.mem_append.1 hx with h | h
          · have := i3 x h; omega
          · simp at h; subst h; simp only; omega
        · have := i3 x hx; omega
theorem own_only {w w' : World} {base : Nat} {e : TypeId} {size n : Nat} {v : Value} {xs : List Value} (h : w.ownsRow base e size v n xs) (h1 : e ≠ 111) (h2 : e ≠ 129) (ho : Only w w') : w'.ownsRow base e size v n xs := by
  refine ⟨h.1, h.2.imp id ?_⟩
  rintro ⟨g, cap, cur, rfl, hb, hh, rest⟩
  exact ⟨g, cap, cur, rfl, hb, ho.block g cur e h1 h2 hh, rest⟩
theorem Ring.kept {w w' : World} {B R : Nat} {s : St} {row : Option Nat} (h : Ring w B R s) (hg : w.grownBy w' row) (hr : ∀ g, row = some g → ∃ cs t, Blk w g t cs ∧ t ≠ 111 ∧ t ≠ 129) : Ring w' B R s := by
  obtain ⟨v, hR, ho, hB⟩ := h
  refine ⟨v, hR.grown hg ?_, ho.kept hg ?_, hB⟩
  · intro e
    obtain ⟨cs, t, hb, h1, _⟩ := hr R e.symm
    exact Blk.ne_ hb hR h1 rfl
  · by_cases hv : offBlock v = none
    · exact .inl hv
    · refine .inr (fun e => ?_)
      cases hrow : row with
      | none => rw [hrow] at e; exact hv e
      | some g =>
        obtain ⟨cs, t, hb, _, h2⟩ := hr g hrow
        exact off_blk_ne ho hb (Ne.symm h2) (by rw [e, hrow])
theorem Ring.below {w w' : World} {B R : Nat} {s : St} (h : Ring w B R s) (hb : Below w.heap.size w w') : Ring w' B R s := h.kept (grown_of_below hb none) (by simp)
theorem own_blk {w : World} {base : Nat} {e : TypeId} {size n g : Nat} {v : Value} {xs : List Value} (h : w.ownsRow base e size v n xs) (hg : v.ownBlock = some g) : ∃ cs, Blk w g e cs := by
  rcases h.2 with ⟨rfl, _⟩ | ⟨g', cap, cur, rfl, _, hh, _⟩
  · simp [Value.ownBlock] at hg
  · simp [Value.ownBlock] at hg
    subst hg
    exact ⟨cur, hh⟩

def PlayPost (js : List Jb) (w : World) (e : Ending) (w' : World) : Prop := ∃ v, e = .returned (.tuple #[v, .int .i64 0]) ∧ w'.ownsRow w.heap.size 32 4 v js.length (cellsOf dnc (dns ⟨0, []⟩ js)) ∧ Below w.heap.size w w'
set_option maxRecDepth 100000 in
set_option maxHeartbeats 2000000 in
theorem play_any (v : Value) (js : List Jb) (w : World) (h : CRow 2 jbc w v js) (hj : ∀ j ∈ js, okj j) (hl : js.length ≤ 80) :
    Calls Try.prog 36 #[v] w (PlayPost js w) := by
  obtain ⟨A, c, rfl, hl1, hl2, hr⟩ := h
  unfold maxLen at hl2
  have hd : decide ((80 : Int) < (js.length : Int)) = false := by simp; omega
  go_enter Try.func36, Try.ntmps36
  go_wp2_with fail
  go_loopw [5, 7, 15] (fun o _ i wr => ∃ k : Nat, k ≤ js.length ∧ i = .int .i64 k ∧ wr.ownsRow w.heap.size 32 4 o k (cellsOf dnc (dns ⟨0, []⟩ (js.take k))) ∧ Ring wr w.heap.size w.heap.size (run ⟨0, []⟩ (js.take k)) ∧ Below w.heap.size w wr) (fun _ _ i _ => js.length - (intOf i).toNat)
  case atStart => exact ⟨0, Nat.zero_le _, rfl, World.ownsRow_nil _ _ _ _, ⟨_, Blk.new w _ _, OffRow.nil_ _ _ _ _, Nat.le_refl _⟩, (Below.refl _ _).alloc (Nat.le_refl _) _⟩
  case round =>
    obtain ⟨k, hk, rfl, hown, hring, hbel⟩ := hrel
    by_cases hlt : k < js.length
    · obtain ⟨b0, o0, rfl, hb0, c0, c1⟩ := CRow.at2 (x := fun j : Jb => .int .i64 (if j.push then 1 else 2)) (y := fun j => .int .i64 (j.n : Int)) (hr.below hbel) hlt
      have hb0' := Nat.lt_of_lt_of_le hb0 hbel.size
      have hok := hj js[k] (List.getElem_mem hlt)
      obtain ⟨bd1, bd2, bd3⟩ := run_bd (js.take k) (fun x hx => hj x (List.mem_of_mem_take hx))
      have hlk : (js.take k).length = k := by simp; omega
      rw [hlk] at bd1 bd2 bd3
      have htk : js.take (k + 1) = js.take k ++ [js[k]] := List.take_succ_eq_append_getElem hlt
      have HR := Lib.hid (show run ⟨0, []⟩ (js.take (k + 1)) = (stp (run ⟨0, []⟩ (js.take k)) js[k]).1 by rw [htk, run_snoc])
      have HD := Lib.hid (show cellsOf dnc (dns ⟨0, []⟩ (js.take (k + 1))) = cellsOf dnc (dns ⟨0, []⟩ (js.take k)) ++ dnc (stp (run ⟨0, []⟩ (js.take k)) js[k]).2 by rw [htk, dns_snoc, cellsOf_snoc])
      clear htk hlk
      generalize js[k] = j at *
      rcases j with ⟨p, q⟩
      have hzw : w.heap.size ≤ wr.heap.size := hbel.size
      cases p
      · have hok' : 1 ≤ q ∧ q ≤ 50 := hok
        clear hok
        simp only [Bool.false_eq_true, if_false] at c0
        have hring1 := hring.below ((Below.refl _ _).alloc (Nat.le_refl _) (.cells #[.int .i64 2, .int .i64 (q : Int)] 29))
        have hown1 := hown.alloc (.cells #[.int .i64 2, .int .i64 (q : Int)] 29)
        have KW1 := hbel.alloc hzw (.cells #[.int .i64 2, .int .i64 (q : Int)] 29)
        clear hring hown hbel
        go_wp2_with fail
        refine (turn_any w.heap.size w.heap.size q _ _ hring1 (by simp; omega) hok'.1 hok'.2 (by omega) (fun x hx => by have := bd3 x hx; omega)).mono ?_
        rintro e w2 ⟨rfl, hring2, hon2, hbel2⟩
        have hown2 := own_only hown1 (by decide) (by decide) hon2
        replace hbel2 := KW1.trans hbel2
        have hz2 : w.heap.size ≤ w2.heap.size := hbel2.size
        generalize (stp (run ⟨0, []⟩ (js.take k)) ⟨false, q⟩).2 = d at *
        obtain ⟨dc, dt, db, dv⟩ := d
        simp only [dnc]
        clear hring1 hon2 hown1 KW1
        go_wp2_with (at_builtin; refine wpList_appN rfl (.tmp 36) (.tmp 41) _ rfl w.heap.size 32 _ 4 32 Try.underlying25 done_info rfl (by decide) u5 k (cellsOf dnc (dns ⟨0, []⟩ (js.take k))) rfl hown2 [.int .i64 (dc : Int), .int .i64 (dt : Int), .int .i64 (db : Int), .bool dv] rfl _ rfl rfl rfl (dnc_one ⟨dc, dt, db, dv⟩) (by omega) (by omega) hz2 ?_)
        intro v' w3 hown3 hbel3 hg3
        replace hbel3 := hbel3 _ (Nat.le_refl _) _ hbel2
        have hring3 := hring2.kept hg3 (fun g e => by
          obtain ⟨cs, hb⟩ := own_blk hown2 e
          exact ⟨cs, _, hb, by decide, by decide⟩)
        clear hring2 hown2 hg3 hbel2
        go_wp2_with fail
        go_roundw
        case rel => first | exact ⟨k + 1, by omega, by go_num, by rw [HD.out]; exact hown3, by rw [HR.out]; exact hring3, hbel3⟩ | ((repeat apply Exists.intro); exact ⟨⟨k + 1, by omega, by go_num, by rw [HD.out]; exact hown3, by rw [HR.out]; exact hring3, hbel3⟩, rfl⟩)
        case measure => simp [intOf]; omega
      · have hok' : q ≤ 600 := hok
        clear hok
        simp only [if_true] at c0
        have hring1 := hring.below ((Below.refl _ _).alloc (Nat.le_refl _) (.cells #[.int .i64 1, .int .i64 (q : Int)] 29))
        have hown1 := hown.alloc (.cells #[.int .i64 1, .int .i64 (q : Int)] 29)
        have KW1 := hbel.alloc hzw (.cells #[.int .i64 1, .int .i64 (q : Int)] 29)
        clear hring hown hbel
        go_wp2_with fail
        refine (push_any w.heap.size w.heap.size q _ _ hring1 (by simp; omega) hok' (by omega) (by omega)).mono ?_
        rintro e w2 ⟨rfl, hring2, hon2, hbel2⟩
        have hown2 := own_only hown1 (by decide) (by decide) hon2
        replace hbel2 := KW1.trans hbel2
        have hz2 : w.heap.size ≤ w2.heap.size := hbel2.size
        generalize (stp (run ⟨0, []⟩ (js.take k)) ⟨true, q⟩).2 = d at *
        obtain ⟨dc, dt, db, dv⟩ := d
        simp only [dnc]
        clear hring1 hon2 hown1 KW1
        go_wp2_with (at_builtin; refine wpList_appN rfl (.tmp 27) (.tmp 32) _ rfl w.heap.size 32 _ 4 32 Try.underlying25 done_info rfl (by decide) u5 k (cellsOf dnc (dns ⟨0, []⟩ (js.take k))) rfl hown2 [.int .i64 (dc : Int), .int .i64 (dt : Int), .int .i64 (db : Int), .bool dv] rfl _ rfl rfl rfl (dnc_one ⟨dc, dt, db, dv⟩) (by omega) (by omega) hz2 ?_)
        intro v' w3 hown3 hbel3 hg3
        replace hbel3 := hbel3 _ (Nat.le_refl _) _ hbel2
        have hring3 := hring2.kept hg3 (fun g e => by
          obtain ⟨cs, hb⟩ := own_blk hown2 e
          exact ⟨cs, _, hb, by decide, by decide⟩)
        clear hring2 hown2 hg3 hbel2
        go_wp2_with fail
        go_roundw
        case rel => first | exact ⟨k + 1, by omega, by go_num, by rw [HD.out]; exact hown3, by rw [HR.out]; exact hring3, hbel3⟩ | ((repeat apply Exists.intro); exact ⟨⟨k + 1, by omega, by go_num, by rw [HD.out]; exact hown3, by rw [HR.out]; exact hring3, hbel3⟩, rfl⟩)
        case measure => simp [intOf]; omega
    · obtain rfl : k = js.length := by omega
      rw [List.take_length] at hown
      go_wp2_with fail
      go_ret2
      exact ⟨_, rfl, hown, hbel⟩

def JobsPost (n : Nat) (w : World) (e : Ending) (w' : World) : Prop := ∃ (v : Value) (js : List Jb), e = .returned v ∧ w'.ownsRow w.heap.size 29 2 v js.length (cellsOf jbc js) ∧ (∀ j ∈ js, okj j ∧ (j.push = false → j.n ≤ 20)) ∧ js.length ≤ n ∧ Below w.heap.size w w'
set_option maxRecDepth 100000 in
set_option maxHeartbeats 2000000 in
theorem jobs_any (v : Value) (xs : List Int) (n : Nat) (w : World) (hr : Row .i64 w v xs) (hn : n ≤ 1000) :
    Calls Try.prog 15 #[v, .int .i64 n] w (JobsPost n w) := by
  have hbd := hr.bd
  obtain ⟨A, c, rfl, hl, hc, hw, hrd⟩ := hr
  unfold maxLen at hc
  go_enter Try.func15, Try.ntmps15
  go_wp2_with fail
  go_loopw [5, 6, 7] (fun o i _ wr => ∃ (k : Nat) (js : List Jb), k ≤ xs.length ∧ k ≤ n ∧ i = .int .i64 k ∧ js.length = k ∧ wr.ownsRow w.heap.size 29 2 o k (cellsOf jbc js) ∧ (∀ j ∈ js, okj j ∧ (j.push = false → j.n ≤ 20)) ∧ Below w.heap.size w wr) (fun _ i _ _ => xs.length - (intOf i).toNat)
  case atStart => exact ⟨0, [], Nat.zero_le _, Nat.zero_le _, rfl, rfl, World.ownsRow_nil _ _ _ _, by simp, Below.refl _ _⟩
  case round =>
    obtain ⟨k, js, hk, hkn, rfl, hjl, hown, hjs, hbel⟩ := hrel
    by_cases hlt : k < xs.length
    · by_cases hlt2 : k < n
      · obtain ⟨b0, o0, rfl, hb0, hcell⟩ := Row.at_ hrd hlt
        have hb := hbd k
        generalize hg : xs.getD k 0 = x at *
        have hcell' : wr.cell? ⟨b0, o0 + k, none⟩ = some (.int .i64 x) := (hbel.cell (p := ⟨b0, o0 + k, none⟩) hb0).trans hcell
        have hb0' := Nat.lt_of_lt_of_le hb0 hbel.size
        have hx1 := tdiv_bd x 3 (by omega) hb
        have P1 := Lib.hid (fun W => picked_any (x.tdiv 3) 20 W hx1 (by omega) (by omega))
        have P2 := Lib.hid (fun W => picked_any x 3 W hb (by omega) (by omega))
        have P3 := Lib.hid (fun W => picked_any (x.tdiv 3) 60 W hx1 (by omega) (by omega))
        have q1 := Int.emod_nonneg (x.tdiv 3) (show (20 : Int) ≠ 0 by omega)
        have q2 := Int.emod_lt_of_pos (x.tdiv 3) (show (0 : Int) < 20 by omega)
        have q3 := Int.emod_nonneg (x.tdiv 3) (show (60 : Int) ≠ 0 by omega)
        have q4 := Int.emod_lt_of_pos (x.tdiv 3) (show (0 : Int) < 60 by omega)
        obtain ⟨a, ha⟩ : ∃ a : Nat, x.tdiv 3 % 20 = (a : Int) := ⟨(x.tdiv 3 % 20).toNat, by omega⟩
        obtain ⟨b, hbq⟩ : ∃ b : Nat, x.tdiv 3 % 60 = (b : Int) := ⟨(x.tdiv 3 % 60).toNat, by omega⟩
        rw [ha] at P1 q1 q2
        rw [hbq] at P3 q3 q4
        generalize x % 3 = r at *
        clear hg ha hbq hcell
        by_cases hr0 : r = 0
        · have hrb : (r == 0) = true := by rw [beq_iff_eq]; exact hr0
          clear hr0
          go_wp2_with fail
          refine (P1.out _).mono ?_
          rintro e w' ⟨rfl, rfl⟩
          go_wp2_with fail
          refine (P2.out _).mono ?_
          rintro e w' ⟨rfl, rfl⟩
          go_wp2_with fail
          refine (P3.out _).mono ?_
          rintro e w' ⟨rfl, rfl⟩
          clear P1 P2 P3
          go_wp2_with (at_builtin; refine wpList_appN rfl (.tmp 40) (.tmp 42) _ rfl w.heap.size 29 _ 2 16 Try.underlying23 job_info rfl (by decide) u5 k (cellsOf jbc js) rfl (hown.alloc _) [.int .i64 1, .int .i64 (b : Int)] rfl _ rfl (by simp) rfl (by simp [Value.oneCell']) (by omega) (by omega) (Nat.le_trans hbel.size (by simp)) ?_)
          intro v' w3 hown3 hbel3 hg3
          replace hbel3 := hbel3 _ (Nat.le_refl _) _ (hbel.alloc hbel.size _)
          clear hown hg3 hbel
          go_wp2_with fail
          go_roundw
          case rel =>
            first
            | exact ⟨k + 1, js ++ [⟨true, b⟩], by omega, by omega, by go_num, by simp [hjl], by rw [cellsOf_snoc]; simpa [jbc] using hown3, fun j hj => (by
                rcases List.mem_append.1 hj with h | h
                · exact hjs j h
                · simp at h; subst h; simp [okj]; omega), hbel3⟩
            | ((repeat apply Exists.intro); exact ⟨⟨k + 1, js ++ [⟨true, b⟩], by omega, by omega, by go_num, by simp [hjl], by rw [cellsOf_snoc]; simpa [jbc] using hown3, fun j hj => (by
                rcases List.mem_append.1 hj with h | h
                · exact hjs j h
                · simp at h; subst h; simp [okj]; omega), hbel3⟩, rfl⟩)
          case measure => simp [intOf]; omega
        · have hrb : (r == 0) = false := by rw [beq_eq_false_iff_ne]; exact hr0
          clear hr0
          go_wp2_with fail
          refine (P1.out _).mono ?_
          rintro e w' ⟨rfl, rfl⟩
          go_wp2_with fail
          refine (P2.out _).mono ?_
          rintro e w' ⟨rfl, rfl⟩
          clear P1 P2 P3
          go_wp2_with (at_builtin; refine wpList_appN rfl (.tmp 40) (.tmp 42) _ rfl w.heap.size 29 _ 2 16 Try.underlying23 job_info rfl (by decide) u5 k (cellsOf jbc js) rfl (hown.alloc _) [.int .i64 2, .int .i64 (1 + (a : Int))] rfl _ rfl (by simp) rfl (by simp [Value.oneCell']) (by omega) (by omega) (Nat.le_trans hbel.size (by simp)) ?_)
          intro v' w3 hown3 hbel3 hg3
          replace hbel3 := hbel3 _ (Nat.le_refl _) _ (hbel.alloc hbel.size _)
          clear hown hg3 hbel
          go_wp2_with fail
          go_roundw
          case rel =>
            first
            | exact ⟨k + 1, js ++ [⟨false, 1 + a⟩], by omega, by omega, by go_num, by simp [hjl], by rw [cellsOf_snoc]; simpa [jbc] using hown3, fun j hj => (by
                rcases List.mem_append.1 hj with h | h
                · exact hjs j h
                · simp at h; subst h; simp [okj]; omega), hbel3⟩
            | ((repeat apply Exists.intro); exact ⟨⟨k + 1, js ++ [⟨false, 1 + a⟩], by omega, by omega, by go_num, by simp [hjl], by rw [cellsOf_snoc]; simpa [jbc] using hown3, fun j hj => (by
                rcases List.mem_append.1 hj with h | h
                · exact hjs j h
                · simp at h; subst h; simp [okj]; omega), hbel3⟩, rfl⟩)
          case measure => simp [intOf]; omega
      · go_wp2
        go_ret
        exact ⟨_, js, rfl, by rw [hjl]; exact hown, hjs, by omega, hbel⟩
    · go_wp2
      go_ret
      exact ⟨_, js, rfl, by rw [hjl]; exact hown, hjs, by omega, hbel⟩

def TurnedPost (js : List Jb) (w : World) (e : Ending) (w' : World) : Prop := ∃ v, e = .returned (.tuple #[v, .bool true]) ∧ CRow 4 dnc w' v (dns ⟨0, []⟩ js) ∧ Below w.heap.size w w'
set_option maxRecDepth 100000 in
set_option maxHeartbeats 2000000 in
theorem turned_any (v : Value) (js : List Jb) (w : World) (h : CRow 2 jbc w v js) (hj : ∀ j ∈ js, okj j) (hl : js.length ≤ 80) :
    Calls Try.prog 16 #[v] w (TurnedPost js w) := by
  have hp := h
  obtain ⟨A, c, rfl, hl1, hl2, hr⟩ := h
  unfold maxLen at hl2
  have G1 := Lib.hid (fun (h : World) => play_any (.slice (some ⟨h.heap.size, 0, none⟩) 2 2) [⟨true, 3⟩, ⟨false, 2⟩] (h.alloc (.cells #[.int .i64 1, .int .i64 3, .int .i64 2, .int .i64 2] 29)) (CRow.lit jbc_len h 29 [⟨true, 3⟩, ⟨false, 2⟩] (by decide)) (by intro j hj; simp at hj; rcases hj with rfl | rfl <;> simp [okj]) (by decide))
  go_enter Try.func16, Try.ntmps16
  go_wp2_with (at_builtin; refine wpList_copyC jbc_len jbc_one rfl (.tmp 9) _ rfl 29 _ 16 Try.underlying23 job_info rfl (by decide) _ js rfl hp (by omega) (by omega) ?_)
  intro v2 w2 _ hrow2 hb2
  go_wp2_with fail
  refine (play_any v2 js _ hrow2 hj hl).mono ?_
  rintro e w3 ⟨v3, rfl, hown3, hb3⟩
  have k3 := bstep hb2 hb3
  have hdl : (dns ⟨0, []⟩ js).length = js.length := dns_len js _
  rw [← hdl] at hown3
  have hrow3 := CRow.of_own dnc_len hown3
  clear hb2 hb3 hown3 hrow2
  go_wp2_with fail
  refine (G1.out w3).mono ?_
  rintro e w4 ⟨v4, rfl, hown4, hb4⟩
  have hb34 := bstep_alloc hb4
  have k4 := bstep k3 hb34
  replace hrow3 := hrow3.later hb34
  obtain ⟨g4, c4, hv4, _, hg4⟩ := hown4.form (by decide)
  have hv4' : v4 = .slice (some ⟨g4, 0, none⟩) 2 c4 := hv4
  subst hv4'
  have hx : w4.cell? ⟨g4, 6, none⟩ = some (.int .i64 2) := hown4.cellAt 6 (by decide)
  obtain ⟨A3, c3, hv3, hx3, hy3, hz3⟩ := id hrow3
  rw [hdl] at hv3
  subst hv3
  have heq : ((js.length : Int) == (js.length : Int)) = true := by simp
  have HR3 := Lib.hid hrow3
  clear hb4 hb34 hown4 hv4 k3 hdl hrow3 hp hr hz3 hx3
  go_wp2_with fail
  go_quiet (fail)
  go_wp2_with fail
  go_ret2
  exact ⟨_, rfl, HR3.out, below_drewN k4 _⟩
end Go.Proofs.Ytifjahfolmhhpaa
