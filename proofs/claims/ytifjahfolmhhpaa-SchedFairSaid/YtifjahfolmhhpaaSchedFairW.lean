/-
  The walk of SchedFair: at every input it returns true, and nothing that was there is changed.
-/
import Derived.Test.YtifjahfolmhhpaaSchedJ
namespace Go.Proofs.Ytifjahfolmhhpaa
open Go.RowKit Sch
set_option linter.unusedVariables false

/-- Tasks that all have enough, and the one whose turn it is. -/
structure Fair (b n i : Nat) (s : St) : Prop where
  len : s.ts.length = n
  num : ∀ j (h : j < s.ts.length), s.ts[j].1 = (i + j) % n
  has : ∀ x ∈ s.ts, 500 ≤ x.2 + b * i
theorem fair_turn (b n i : Nat) (s : St) (hn : 0 < n) (hb : 1 ≤ b) (hbi : b * (i + 1) < 500) (h : Fair b n i s) : (stp s ⟨false, b⟩).2 = ⟨0, i % n, b, false⟩ ∧ Fair b n (i + 1) (stp s ⟨false, b⟩).1 := by
  obtain ⟨h1, h2, h3⟩ := h
  rcases hs : s.ts with _ | ⟨⟨t, l⟩, r⟩
  · rw [hs] at h1; simp at h1; omega
  · have ht : t = i % n := by have := h2 0 (by rw [hs]; simp); simpa [hs] using this
    have hl : 500 ≤ l + b * i := h3 (t, l) (by rw [hs]; simp)
    have hbm : b * (i + 1) = b * i + b := by rw [Nat.mul_add]; omega
    have hmin : min b l = b := by omega
    have h0 : 0 < l - b := by omega
    have he : stp s ⟨false, b⟩ = (⟨s.next, r ++ [(t, l - b)]⟩, ⟨0, t, b, false⟩) := by
      have h4 : (l - b == 0) = false := by rw [beq_eq_false_iff_ne]; omega
      simp [stp, hs, hmin, h4]; omega
    rw [he]
    refine ⟨by rw [ht], ?_, ?_, ?_⟩
    · simp [hs] at h1 ⊢; omega
    · intro j hj
      have hrl : r.length + 1 = n := by rw [hs] at h1; simpa using h1
      simp only
      by_cases hjr : j < r.length
      · have := h2 (j + 1) (by rw [hs]; simp; omega)
        simp only [hs, List.getElem_cons_succ] at this
        rw [List.getElem_append_left hjr, this]; congr 1; omega
      · have hj2 : j = r.length := by simp at hj; omega
        subst hj2
        rw [List.getElem_append_right (Nat.le_refl _)]
        simp only [Nat.sub_self, List.getElem_cons_zero]
        rw [ht, show i + 1 + r.length = i + n by omega, Nat.add_mod_right]
    · intro x hx
      rcases List.mem_append.1 hx with h | h
      · have := h3 x (by rw [hs]; simp [h]); omega
      · simp at h; subst h; simp only; omega
theorem fair_start (b : Nat) (ps : List Nat) (hp : ∀ p ∈ ps, 500 ≤ p) : Fair b ps.length 0 (run ⟨0, []⟩ (ps.map fun p => ⟨true, p⟩)) ∧ (run ⟨0, []⟩ (ps.map fun p => ⟨true, p⟩)).next = ps.length := by
  have key : (run ⟨0, []⟩ (ps.map fun p => ⟨true, p⟩)) = ⟨ps.length, ps.zipIdx.map fun x => (x.2, x.1)⟩ := by
    induction ps using snoc_ind with
    | h0 => rfl
    | h1 l p ih =>
      have hp0 := hp p (by simp)
      rw [List.map_append, List.map_cons, List.map_nil, run_snoc, ih (fun q hq => hp q (by simp [hq]))]
      simp [stp, List.zipIdx_append]; omega
  rw [key]
  refine ⟨⟨by simp, fun j hj => ?_, fun x hx => ?_⟩, rfl⟩
  · have hj' : j < ps.length := by simpa using hj
    simp [Nat.mod_eq_of_lt hj']
  · simp only [List.mem_map] at hx
    obtain ⟨⟨a, i⟩, hy, rfl⟩ := hx
    have := hp a (List.fst_mem_of_mem_zipIdx hy)
    simp only; omega
theorem fair_all (b n : Nat) (s : St) (hn : 0 < n) (hb : 1 ≤ b) (h : Fair b n 0 s) : ∀ i, b * i < 500 → Fair b n i (run s (List.replicate i ⟨false, b⟩)) := by
  intro i
  induction i with
  | zero => intro _; exact h
  | succ i ih =>
    intro hi
    have hbm : b * (i + 1) = b * i + b := by rw [Nat.mul_add]; omega
    rw [List.replicate_succ', run_snoc]
    exact (fair_turn b n i _ hn hb hi (ih (by omega))).2
/-- What stands in the dones. -/
theorem fair_dns (b : Nat) (ps : List Nat) (k i : Nat) (hp : ∀ p ∈ ps, 500 ≤ p) (hn : 0 < ps.length) (hb : 1 ≤ b) (hik : i < k) (hbk : b * k < 500) :
    (dns ⟨0, []⟩ (ps.map (fun p => (⟨true, p⟩ : Jb)) ++ List.replicate k ⟨false, b⟩))[ps.length + i]? = some ⟨0, i % ps.length, b, false⟩ := by
  have hbi : b * (i + 1) ≤ b * k := Nat.mul_le_mul_left _ (by omega)
  have hbm : b * (i + 1) = b * i + b := by rw [Nat.mul_add]; omega
  have hlt : ps.length + i < (ps.map (fun p => (⟨true, p⟩ : Jb)) ++ List.replicate k (⟨false, b⟩ : Jb)).length := by simp; omega
  rw [List.getElem?_eq_getElem (by rw [dns_len]; exact hlt), dns_at _ _ _ hlt]
  have e1 : (ps.map (fun p => (⟨true, p⟩ : Jb)) ++ List.replicate k (⟨false, b⟩ : Jb)).take (ps.length + i) = ps.map (fun p => (⟨true, p⟩ : Jb)) ++ List.replicate i (⟨false, b⟩ : Jb) := by
    rw [List.take_append, List.length_map, List.take_of_length_le (by simp), List.take_replicate]; congr 2; omega
  have e2 : (ps.map (fun p => (⟨true, p⟩ : Jb)) ++ List.replicate k (⟨false, b⟩ : Jb))[ps.length + i]'hlt = ⟨false, b⟩ := by
    rw [List.getElem_append_right (by simp)]; simp
  rw [e1, e2, run_append]
  have hf := fair_all b ps.length _ hn hb (fair_start b ps hp).1 i (by omega)
  rw [(fair_turn b ps.length i _ hn hb (by omega) hf).1]
theorem none_dns (k i b : Nat) (hik : i < k) : (dns ⟨0, []⟩ (List.replicate k (⟨false, b⟩ : Jb)))[i]? = some ⟨7, 0, 0, false⟩ := by
  rw [List.getElem?_eq_getElem (by rw [dns_len]; simpa using hik), dns_at _ _ _ (by simpa using hik)]
  have : ∀ j, run ⟨0, []⟩ (List.replicate j (⟨false, b⟩ : Jb)) = ⟨0, []⟩ := by
    intro j
    induction j with
    | zero => rfl
    | succ j ih => rw [List.replicate_succ', run_snoc, ih]; rfl
  rw [List.take_replicate, this, List.getElem_replicate]
  rfl
theorem CRow.at4 {α : Type} {x y z t : α → Value} {w : World} {B : Nat} {A : Option Addr} {xs : List α} (h : Reads w B 4 A xs.length (cellsOf (fun a => [x a, y a, z a, t a]) xs)) {i : Nat} (hi : i < xs.length) :
    ∃ b off, A = some ⟨b, off, none⟩ ∧ b < B ∧ w.cell? ⟨b, off + i * 4, none⟩ = some (x xs[i]) ∧ w.cell? ⟨b, off + i * 4 + 1, none⟩ = some (y xs[i]) ∧ w.cell? ⟨b, off + i * 4 + 2, none⟩ = some (z xs[i]) ∧ w.cell? ⟨b, off + i * 4 + 3, none⟩ = some (t xs[i]) := by
  obtain ⟨b, off, hA, hb, hx⟩ := CRow.at_ (cl := fun a => [x a, y a, z a, t a]) (fun _ => rfl) (by omega) h hi
  exact ⟨b, off, hA, hb, hx 0 _ rfl, by rw [Nat.add_assoc]; exact hx 1 _ rfl, by rw [Nat.add_assoc]; exact hx 2 _ rfl, by rw [Nat.add_assoc]; exact hx 3 _ rfl⟩

set_option maxRecDepth 100000 in
set_option maxHeartbeats 4000000 in
theorem schedFair_walk (w : World) (v0 : Value) (l : List Int) (h0 : Row .i64 w v0 l) (budget : Int) (hbudget : -9223372036854775808 ≤ budget ∧ budget ≤ 9223372036854775807) (turns : Int) (hturns : -9223372036854775808 ≤ turns ∧ turns ≤ 9223372036854775807) :
    Calls Try.prog 4 #[v0, .int .i64 budget, .int .i64 turns] w fun e w' => e = .returned (.bool true) ∧ Below w.heap.size w w' := by
  have hbd := h0.bd
  obtain ⟨A, c, rfl, hl, hc, hw, hrd⟩ := h0
  unfold maxLen at hc
  go_enter Try.func4, Try.ntmps4
  go_wp2_with fail
  go_loopw [7, 8] (fun o i wr => ∃ (k : Nat) (ps : List Nat), k ≤ l.length ∧ k ≤ 8 ∧ i = .int .i64 k ∧ ps.length = k ∧ (∀ p ∈ ps, 500 ≤ p ∧ p ≤ 600) ∧ wr.ownsRow w.heap.size 29 2 o k (cellsOf jbc (ps.map fun p => ⟨true, p⟩)) ∧ Below w.heap.size w wr) (fun _ i _ => l.length - (intOf i).toNat)
  case atStart => exact ⟨0, [], Nat.zero_le _, Nat.zero_le _, rfl, rfl, by simp, World.ownsRow_nil _ _ _ _, Below.refl _ _⟩
  case round =>
    obtain ⟨k, ps, hk, hk8, rfl, hpl, hps, hown, hbel⟩ := hrel
    by_cases hlt : k < l.length
    · by_cases hlt2 : k < 8
      · obtain ⟨b0, o0, rfl, hb0, hcell⟩ := Row.at_ hrd hlt
        have hb := hbd k
        generalize l.getD k 0 = x at *
        have hcell' : wr.cell? ⟨b0, o0 + k, none⟩ = some (.int .i64 x) := (hbel.cell (p := ⟨b0, o0 + k, none⟩) hb0).trans hcell
        have hb0' := Nat.lt_of_lt_of_le hb0 hbel.size
        have P1 := Lib.hid (fun W => picked_any x 100 W hb (by omega) (by omega))
        have q1 := Int.emod_nonneg x (show (100 : Int) ≠ 0 by omega)
        have q2 := Int.emod_lt_of_pos x (show (0 : Int) < 100 by omega)
        obtain ⟨a, ha⟩ : ∃ a : Nat, x % 100 = (a : Int) := ⟨(x % 100).toNat, by omega⟩
        rw [ha] at P1 q1 q2
        clear ha hcell
        go_wp2_with fail
        refine (P1.out _).mono ?_
        rintro e w' ⟨rfl, rfl⟩
        go_wp2_with (at_builtin; refine wpList_appN rfl (.tmp 27) (.tmp 35) _ rfl w.heap.size 29 _ 2 16 Try.underlying23 job_info rfl (by decide) u7 k (cellsOf jbc (ps.map fun p => ⟨true, p⟩)) rfl hown [.int .i64 1, .int .i64 (500 + (a : Int))] rfl _ rfl rfl rfl (by simp [Value.oneCell']) (by omega) (by omega) hbel.size ?_)
        intro v' w3 hown3 hbel3 hg3
        replace hbel3 := hbel3 _ (Nat.le_refl _) _ hbel
        clear hown hg3 hbel
        go_wp2_with fail
        go_roundw
        case rel => exact ⟨k + 1, ps ++ [500 + a], by omega, by omega, by go_num, by simp [hpl], fun p hp => (by rcases List.mem_append.1 hp with h | h; exact hps p h; simp at h; omega), by rw [List.map_append, cellsOf_append]; simpa [jbc, cellsOf] using hown3, hbel3⟩
        case measure => simp [intOf]; omega
      · have hpb := fun W => picked_any budget 9 W hbudget (by omega) (by omega)
        have m1 := Int.emod_nonneg budget (show (9 : Int) ≠ 0 by omega)
        have m2 := Int.emod_lt_of_pos budget (show (0 : Int) < 9 by omega)
        obtain ⟨b0, hb0⟩ : ∃ b0 : Nat, budget % 9 = (b0 : Int) := ⟨(budget % 9).toNat, by omega⟩
        rw [hb0] at hpb m1 m2
        have hpt := fun W => picked_any turns 40 W hturns (by omega) (by omega)
        have m3 := Int.emod_nonneg turns (show (40 : Int) ≠ 0 by omega)
        have m4 := Int.emod_lt_of_pos turns (show (0 : Int) < 40 by omega)
        obtain ⟨kk, hkk⟩ : ∃ kk : Nat, turns % 40 = (kk : Int) := ⟨(turns % 40).toNat, by omega⟩
        rw [hkk] at hpt m3 m4
        have HPB := Lib.hid hpb
        have HPT := Lib.hid hpt
        obtain ⟨Ao, co, rfl, hlo, hco⟩ := own_slice hown
        unfold maxLen at hco
        clear hpb hpt hb0 hkk hbd hrd hw
        go_wp2_with fail
        refine (HPB.out _).mono ?_
        rintro e w' ⟨rfl, rfl⟩
        go_wp2_with fail
        refine (HPT.out _).mono ?_
        rintro e w' ⟨rfl, rfl⟩
        clear HPB HPT
        obtain ⟨b, hbb⟩ : ∃ b : Nat, b = 1 + b0 := ⟨_, rfl⟩
        have hbe : (1 : Int) + (b0 : Int) = (b : Int) := by omega
        have hb1 : 1 ≤ b ∧ b ≤ 9 := by omega
        have HBE := Lib.hid hbe
        clear hbb hbe
        go_wp2_with fail
        rw [HBE.out]
        go_loopw [7, 12] (fun o i w3 => ∃ i' : Nat, i' ≤ kk ∧ i = .int .i64 i' ∧ w3.ownsRow w.heap.size 29 2 o (k + i') (cellsOf jbc (ps.map (fun p => (⟨true, p⟩ : Jb)) ++ List.replicate i' (⟨false, b⟩ : Jb))) ∧ Below w.heap.size w w3) (fun _ i _ => kk - (intOf i).toNat)
        case atStart => exact ⟨0, Nat.zero_le _, rfl, by simpa using hown, hbel⟩
        case round =>
          clear hown hbel
          obtain ⟨i', hi', rfl, hown, hbel⟩ := hrel
          by_cases hlt : i' < kk
          · go_wp2_with (at_builtin; refine wpList_appN rfl (.tmp 49) (.tmp 52) _ rfl w.heap.size 29 _ 2 16 Try.underlying23 job_info rfl (by decide) _ (k + i') _ rfl hown [.int .i64 2, .int .i64 (b : Int)] rfl _ rfl rfl rfl (by simp [Value.oneCell']) (by omega) (by omega) hbel.size ?_)
            intro v' w3 hown3 hbel3 hg3
            replace hbel3 := hbel3 _ (Nat.le_refl _) _ hbel
            clear hown hg3 hbel
            go_wp2_with fail
            go_roundw
            case rel =>
              have e : cellsOf jbc (ps.map (fun p => (⟨true, p⟩ : Jb)) ++ List.replicate (i' + 1) (⟨false, b⟩ : Jb)) = cellsOf jbc (ps.map (fun p => (⟨true, p⟩ : Jb)) ++ List.replicate i' (⟨false, b⟩ : Jb)) ++ [.int .i64 2, .int .i64 (b : Int)] := by
                rw [List.replicate_succ', ← List.append_assoc, cellsOf_snoc]; rfl
              first | exact ⟨i' + 1, by omega, by go_num, by rw [e]; exact hown3, hbel3⟩ | ((repeat apply Exists.intro); exact ⟨⟨i' + 1, by omega, by go_num, by rw [e]; exact hown3, hbel3⟩, rfl⟩)
            case measure => simp [intOf]; omega
          · obtain rfl : i' = kk := by omega
            have hjl : (ps.map (fun p => (⟨true, p⟩ : Jb)) ++ List.replicate i' (⟨false, b⟩ : Jb)).length = k + i' := by simp [hpl]
            rw [← hjl] at hown
            have hrow := CRow.of_own jbc_len hown
            have hok : ∀ j ∈ ps.map (fun p => (⟨true, p⟩ : Jb)) ++ List.replicate i' (⟨false, b⟩ : Jb), okj j := fun j hj => by
              rcases List.mem_append.1 hj with h | h
              · obtain ⟨p, hp, rfl⟩ := List.mem_map.1 h
                exact (hps p hp).2
              · have := (List.mem_replicate.1 h).2; subst this
                exact ⟨hb1.1, by show b ≤ 50; omega⟩
            have HFD := Lib.hid (fun i h1 h2 => fair_dns b ps i' i (fun p hp => (hps p hp).1) h1 hb1.1 h2 (by have : b * i' ≤ 9 * 39 := Nat.mul_le_mul hb1.2 (by omega); omega))
            have HND : Hid (k = 0 → ∀ i, i < i' → (dns ⟨0, []⟩ (ps.map (fun p => (⟨true, p⟩ : Jb)) ++ List.replicate i' (⟨false, b⟩ : Jb)))[i]? = some ⟨7, 0, 0, false⟩) := fun h0 i hi => by
              have : ps = [] := List.length_eq_zero_iff.1 (by omega)
              subst this
              exact none_dns i' i b hi
            have hdl : (dns ⟨0, []⟩ (ps.map (fun p => (⟨true, p⟩ : Jb)) ++ List.replicate i' (⟨false, b⟩ : Jb))).length = k + i' := by rw [dns_len]; exact hjl
            generalize ps.map (fun p => (⟨true, p⟩ : Jb)) ++ List.replicate i' (⟨false, b⟩ : Jb) = js at *
            clear hown
            go_wp2_with fail
            refine (turned_any _ js _ hrow hok (by omega)).mono ?_
            rintro e w4 ⟨v4, rfl, hdr, hb4⟩
            have k4 := bstep hbel hb4
            clear hrow hok hbel hb4 hjl
            generalize dns ⟨0, []⟩ js = ds at *
            obtain ⟨Ad, cd, rfl, hld, hcd, hrd4⟩ := hdr
            have HRD := Lib.hid hrd4
            rw [hdl] at hld ⊢
            have HDL := Lib.hid hdl
            clear hrd4 hdl
            unfold maxLen at hcd
            go_wp2_with fail
            go_loopw [15, 16] (fun i _ w5 => ∃ t : Nat, t ≤ i' ∧ i = .int .i64 t ∧ Below w4.heap.size w4 w5) (fun i _ _ => i' - (intOf i).toNat)
            case atStart => exact ⟨0, Nat.zero_le _, rfl, Below.refl _ _⟩
            case round =>
              obtain ⟨t, ht, rfl, hbel⟩ := hrel
              by_cases hlt : t < i'
              · have hkd : k + t < ds.length := by rw [HDL.out]; omega
                obtain ⟨bd, od, hA, hbd, cd0, cd1, cd2, cd3⟩ := CRow.at4 (x := fun d : Dn => .int .i64 (d.code : Int)) (y := fun d => .int .i64 (d.task : Int)) (z := fun d => .int .i64 (d.bytes : Int)) (t := fun d => .bool d.over) HRD.out hkd
                subst hA
                have hbd' := Nat.lt_of_lt_of_le hbd hbel.size
                by_cases hk0 : k = 0
                · have hd := HND.out hk0 t hlt
                  have he : ds[k + t]? = some ⟨7, 0, 0, false⟩ := by rw [hk0, Nat.zero_add]; exact hd
                  rw [List.getElem?_eq_getElem hkd] at he
                  rw [Option.some.inj he] at cd0 cd1 cd2 cd3
                  replace cd0 : _ = some (Value.int .i64 7) := (hbel.cell (p := ⟨bd, od + (k + t) * 4, none⟩) hbd).trans cd0
                  replace cd1 : _ = some (Value.int .i64 0) := (hbel.cell (p := ⟨bd, od + (k + t) * 4 + 1, none⟩) hbd).trans cd1
                  replace cd2 : _ = some (Value.int .i64 0) := (hbel.cell (p := ⟨bd, od + (k + t) * 4 + 2, none⟩) hbd).trans cd2
                  replace cd3 := (hbel.cell (p := ⟨bd, od + (k + t) * 4 + 3, none⟩) hbd).trans cd3
                  have hkz : ((k : Int) == 0) = true := by rw [beq_iff_eq]; omega
                  clear hd he hk0
                  have K5 := fun o => hbel.alloc hbel.size o
                  have K6 := Lib.hid K5
                  clear K5
                  go_wp2_with fail
                  try go_quiet (fail)
                  try go_wp2_with fail
                  go_roundw
                  case rel => first | exact ⟨t + 1, by omega, by go_num, below_drewN (K6.out _) _⟩ | exact ⟨t + 1, by omega, by go_num, K6.out _⟩ | ((repeat apply Exists.intro); exact ⟨⟨t + 1, by omega, by go_num, below_drewN (K6.out _) _⟩, rfl⟩) | ((repeat apply Exists.intro); exact ⟨⟨t + 1, by omega, by go_num, K6.out _⟩, rfl⟩)
                  case measure => simp [intOf]; omega
                · have hd := HFD.out t (by omega) hlt
                  rw [hpl] at hd
                  rw [List.getElem?_eq_getElem hkd] at hd
                  rw [Option.some.inj hd] at cd0 cd1 cd2 cd3
                  replace cd0 : _ = some (Value.int .i64 0) := (hbel.cell (p := ⟨bd, od + (k + t) * 4, none⟩) hbd).trans cd0
                  replace cd1 := (hbel.cell (p := ⟨bd, od + (k + t) * 4 + 1, none⟩) hbd).trans cd1
                  replace cd2 := (hbel.cell (p := ⟨bd, od + (k + t) * 4 + 2, none⟩) hbd).trans cd2
                  replace cd3 := (hbel.cell (p := ⟨bd, od + (k + t) * 4 + 3, none⟩) hbd).trans cd3
                  simp only at cd1 cd2 cd3
                  have hkz : ((k : Int) == 0) = false := by rw [beq_eq_false_iff_ne]; omega
                  have hmod : IntKind.i64.wrap ((t : Int).tmod (k : Int)) = ((t % k : Nat) : Int) := by
                    have : (t : Int).tmod (k : Int) = ((t % k : Nat) : Int) := by rw [Int.tmod_eq_emod_of_nonneg (by omega)]; rfl
                    rw [this]; have h9 := Nat.mod_lt t (show 0 < k by omega); clear this; generalize t % k = r at *; exact IntWalk.i64_in _ (by omega)
                  clear hd
                  have K5 := fun o => hbel.alloc hbel.size o
                  have K6 := Lib.hid K5
                  clear K5
                  go_wp2_with fail
                  try go_quiet (fail)
                  try go_wp2_with fail
                  go_roundw
                  case rel => first | exact ⟨t + 1, by omega, by go_num, below_drewN (K6.out _) _⟩ | exact ⟨t + 1, by omega, by go_num, K6.out _⟩ | ((repeat apply Exists.intro); exact ⟨⟨t + 1, by omega, by go_num, below_drewN (K6.out _) _⟩, rfl⟩) | ((repeat apply Exists.intro); exact ⟨⟨t + 1, by omega, by go_num, K6.out _⟩, rfl⟩)
                  case measure => simp [intOf]; omega
              · go_wp2_with fail
                go_ret
                exact ⟨rfl, bstep k4 hbel⟩
    · have hpb := fun W => picked_any budget 9 W hbudget (by omega) (by omega)
      have m1 := Int.emod_nonneg budget (show (9 : Int) ≠ 0 by omega)
      have m2 := Int.emod_lt_of_pos budget (show (0 : Int) < 9 by omega)
      obtain ⟨b0, hb0⟩ : ∃ b0 : Nat, budget % 9 = (b0 : Int) := ⟨(budget % 9).toNat, by omega⟩
      rw [hb0] at hpb m1 m2
      have hpt := fun W => picked_any turns 40 W hturns (by omega) (by omega)
      have m3 := Int.emod_nonneg turns (show (40 : Int) ≠ 0 by omega)
      have m4 := Int.emod_lt_of_pos turns (show (0 : Int) < 40 by omega)
      obtain ⟨kk, hkk⟩ : ∃ kk : Nat, turns % 40 = (kk : Int) := ⟨(turns % 40).toNat, by omega⟩
      rw [hkk] at hpt m3 m4
      have HPB := Lib.hid hpb
      have HPT := Lib.hid hpt
      obtain ⟨Ao, co, rfl, hlo, hco⟩ := own_slice hown
      unfold maxLen at hco
      clear hpb hpt hb0 hkk hbd hrd hw
      go_wp2_with fail
      refine (HPB.out _).mono ?_
      rintro e w' ⟨rfl, rfl⟩
      go_wp2_with fail
      refine (HPT.out _).mono ?_
      rintro e w' ⟨rfl, rfl⟩
      clear HPB HPT
      obtain ⟨b, hbb⟩ : ∃ b : Nat, b = 1 + b0 := ⟨_, rfl⟩
      have hbe : (1 : Int) + (b0 : Int) = (b : Int) := by omega
      have hb1 : 1 ≤ b ∧ b ≤ 9 := by omega
      have HBE := Lib.hid hbe
      clear hbb hbe
      go_wp2_with fail
      rw [HBE.out]
      go_loopw [7, 12] (fun o i w3 => ∃ i' : Nat, i' ≤ kk ∧ i = .int .i64 i' ∧ w3.ownsRow w.heap.size 29 2 o (k + i') (cellsOf jbc (ps.map (fun p => (⟨true, p⟩ : Jb)) ++ List.replicate i' (⟨false, b⟩ : Jb))) ∧ Below w.heap.size w w3) (fun _ i _ => kk - (intOf i).toNat)
      case atStart => exact ⟨0, Nat.zero_le _, rfl, by simpa using hown, hbel⟩
      case round =>
        clear hown hbel
        obtain ⟨i', hi', rfl, hown, hbel⟩ := hrel
        by_cases hlt : i' < kk
        · go_wp2_with (at_builtin; refine wpList_appN rfl (.tmp 49) (.tmp 52) _ rfl w.heap.size 29 _ 2 16 Try.underlying23 job_info rfl (by decide) _ (k + i') _ rfl hown [.int .i64 2, .int .i64 (b : Int)] rfl _ rfl rfl rfl (by simp [Value.oneCell']) (by omega) (by omega) hbel.size ?_)
          intro v' w3 hown3 hbel3 hg3
          replace hbel3 := hbel3 _ (Nat.le_refl _) _ hbel
          clear hown hg3 hbel
          go_wp2_with fail
          go_roundw
          case rel =>
            have e : cellsOf jbc (ps.map (fun p => (⟨true, p⟩ : Jb)) ++ List.replicate (i' + 1) (⟨false, b⟩ : Jb)) = cellsOf jbc (ps.map (fun p => (⟨true, p⟩ : Jb)) ++ List.replicate i' (⟨false, b⟩ : Jb)) ++ [.int .i64 2, .int .i64 (b : Int)] := by
              rw [List.replicate_succ', ← List.append_assoc, cellsOf_snoc]; rfl
            first | exact ⟨i' + 1, by omega, by go_num, by rw [e]; exact hown3, hbel3⟩ | ((repeat apply Exists.intro); exact ⟨⟨i' + 1, by omega, by go_num, by rw [e]; exact hown3, hbel3⟩, rfl⟩)
          case measure => simp [intOf]; omega
        · obtain rfl : i' = kk := by omega
          have hjl : (ps.map (fun p => (⟨true, p⟩ : Jb)) ++ List.replicate i' (⟨false, b⟩ : Jb)).length = k + i' := by simp [hpl]
          rw [← hjl] at hown
          have hrow := CRow.of_own jbc_len hown
          have hok : ∀ j ∈ ps.map (fun p => (⟨true, p⟩ : Jb)) ++ List.replicate i' (⟨false, b⟩ : Jb), okj j := fun j hj => by
            rcases List.mem_append.1 hj with h | h
            · obtain ⟨p, hp, rfl⟩ := List.mem_map.1 h
              exact (hps p hp).2
            · have := (List.mem_replicate.1 h).2; subst this
              exact ⟨hb1.1, by show b ≤ 50; omega⟩
          have HFD := Lib.hid (fun i h1 h2 => fair_dns b ps i' i (fun p hp => (hps p hp).1) h1 hb1.1 h2 (by have : b * i' ≤ 9 * 39 := Nat.mul_le_mul hb1.2 (by omega); omega))
          have HND : Hid (k = 0 → ∀ i, i < i' → (dns ⟨0, []⟩ (ps.map (fun p => (⟨true, p⟩ : Jb)) ++ List.replicate i' (⟨false, b⟩ : Jb)))[i]? = some ⟨7, 0, 0, false⟩) := fun h0 i hi => by
            have : ps = [] := List.length_eq_zero_iff.1 (by omega)
            subst this
            exact none_dns i' i b hi
          have hdl : (dns ⟨0, []⟩ (ps.map (fun p => (⟨true, p⟩ : Jb)) ++ List.replicate i' (⟨false, b⟩ : Jb))).length = k + i' := by rw [dns_len]; exact hjl
          generalize ps.map (fun p => (⟨true, p⟩ : Jb)) ++ List.replicate i' (⟨false, b⟩ : Jb) = js at *
          clear hown
          go_wp2_with fail
          refine (turned_any _ js _ hrow hok (by omega)).mono ?_
          rintro e w4 ⟨v4, rfl, hdr, hb4⟩
          have k4 := bstep hbel hb4
          clear hrow hok hbel hb4 hjl
          generalize dns ⟨0, []⟩ js = ds at *
          obtain ⟨Ad, cd, rfl, hld, hcd, hrd4⟩ := hdr
          have HRD := Lib.hid hrd4
          rw [hdl] at hld ⊢
          have HDL := Lib.hid hdl
          clear hrd4 hdl
          unfold maxLen at hcd
          go_wp2_with fail
          go_loopw [15, 16] (fun i _ w5 => ∃ t : Nat, t ≤ i' ∧ i = .int .i64 t ∧ Below w4.heap.size w4 w5) (fun i _ _ => i' - (intOf i).toNat)
          case atStart => exact ⟨0, Nat.zero_le _, rfl, Below.refl _ _⟩
          case round =>
            obtain ⟨t, ht, rfl, hbel⟩ := hrel
            by_cases hlt : t < i'
            · have hkd : k + t < ds.length := by rw [HDL.out]; omega
              obtain ⟨bd, od, hA, hbd, cd0, cd1, cd2, cd3⟩ := CRow.at4 (x := fun d : Dn => .int .i64 (d.code : Int)) (y := fun d => .int .i64 (d.task : Int)) (z := fun d => .int .i64 (d.bytes : Int)) (t := fun d => .bool d.over) HRD.out hkd
              subst hA
              have hbd' := Nat.lt_of_lt_of_le hbd hbel.size
              by_cases hk0 : k = 0
              · have hd := HND.out hk0 t hlt
                have he : ds[k + t]? = some ⟨7, 0, 0, false⟩ := by rw [hk0, Nat.zero_add]; exact hd
                rw [List.getElem?_eq_getElem hkd] at he
                rw [Option.some.inj he] at cd0 cd1 cd2 cd3
                replace cd0 : _ = some (Value.int .i64 7) := (hbel.cell (p := ⟨bd, od + (k + t) * 4, none⟩) hbd).trans cd0
                replace cd1 : _ = some (Value.int .i64 0) := (hbel.cell (p := ⟨bd, od + (k + t) * 4 + 1, none⟩) hbd).trans cd1
                replace cd2 : _ = some (Value.int .i64 0) := (hbel.cell (p := ⟨bd, od + (k + t) * 4 + 2, none⟩) hbd).trans cd2
                replace cd3 := (hbel.cell (p := ⟨bd, od + (k + t) * 4 + 3, none⟩) hbd).trans cd3
                have hkz : ((k : Int) == 0) = true := by rw [beq_iff_eq]; omega
                clear hd he hk0
                have K5 := fun o => hbel.alloc hbel.size o
                have K6 := Lib.hid K5
                clear K5
                go_wp2_with fail
                try go_quiet (fail)
                try go_wp2_with fail
                go_roundw
                case rel => first | exact ⟨t + 1, by omega, by go_num, below_drewN (K6.out _) _⟩ | exact ⟨t + 1, by omega, by go_num, K6.out _⟩ | ((repeat apply Exists.intro); exact ⟨⟨t + 1, by omega, by go_num, below_drewN (K6.out _) _⟩, rfl⟩) | ((repeat apply Exists.intro); exact ⟨⟨t + 1, by omega, by go_num, K6.out _⟩, rfl⟩)
                case measure => simp [intOf]; omega
              · have hd := HFD.out t (by omega) hlt
                rw [hpl] at hd
                rw [List.getElem?_eq_getElem hkd] at hd
                rw [Option.some.inj hd] at cd0 cd1 cd2 cd3
                replace cd0 : _ = some (Value.int .i64 0) := (hbel.cell (p := ⟨bd, od + (k + t) * 4, none⟩) hbd).trans cd0
                replace cd1 := (hbel.cell (p := ⟨bd, od + (k + t) * 4 + 1, none⟩) hbd).trans cd1
                replace cd2 := (hbel.cell (p := ⟨bd, od + (k + t) * 4 + 2, none⟩) hbd).trans cd2
                replace cd3 := (hbel.cell (p := ⟨bd, od + (k + t) * 4 + 3, none⟩) hbd).trans cd3
                simp only at cd1 cd2 cd3
                have hkz : ((k : Int) == 0) = false := by rw [beq_eq_false_iff_ne]; omega
                have hmod : IntKind.i64.wrap ((t : Int).tmod (k : Int)) = ((t % k : Nat) : Int) := by
                  have : (t : Int).tmod (k : Int) = ((t % k : Nat) : Int) := by rw [Int.tmod_eq_emod_of_nonneg (by omega)]; rfl
                  rw [this]; have h9 := Nat.mod_lt t (show 0 < k by omega); clear this; generalize t % k = r at *; exact IntWalk.i64_in _ (by omega)
                clear hd
                have K5 := fun o => hbel.alloc hbel.size o
                have K6 := Lib.hid K5
                clear K5
                go_wp2_with fail
                try go_quiet (fail)
                try go_wp2_with fail
                go_roundw
                case rel => first | exact ⟨t + 1, by omega, by go_num, below_drewN (K6.out _) _⟩ | exact ⟨t + 1, by omega, by go_num, K6.out _⟩ | ((repeat apply Exists.intro); exact ⟨⟨t + 1, by omega, by go_num, below_drewN (K6.out _) _⟩, rfl⟩) | ((repeat apply Exists.intro); exact ⟨⟨t + 1, by omega, by go_num, K6.out _⟩, rfl⟩)
                case measure => simp [intOf]; omega
            · go_wp2_with fail
              go_ret
              exact ⟨rfl, bstep k4 hbel⟩
end Go.Proofs.Ytifjahfolmhhpaa
