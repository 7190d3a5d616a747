/-
  The walk of SchedParts: at every input it returns true, and nothing that was there is changed.
-/
import Derived.Test.YtifjahfolmhhpaaSchedJ
namespace Go.Proofs.Ytifjahfolmhhpaa
open Go.RowKit Sch
set_option linter.unusedVariables false

theorem part_run (n b : Nat) (hn : 0 < n) (hb : 0 < b) : ∀ i, b * i ≤ n + b - 1 → run ⟨0, []⟩ ((⟨true, n⟩ : Jb) :: List.replicate i ⟨false, b⟩) = ⟨1, if n ≤ b * i then [] else [(0, n - b * i)]⟩ := by
  intro i
  induction i with
  | zero => intro _; have : ¬ n ≤ b * 0 := by omega
            rw [if_neg this]; simp [run, stp]; omega
  | succ i ih =>
    intro h
    have hbm : b * (i + 1) = b * i + b := by rw [Nat.mul_add]; omega
    have hi : ¬ n ≤ b * i := by omega
    rw [List.replicate_succ', ← List.cons_append, run_snoc, ih (by omega), if_neg hi]
    by_cases hle : n ≤ b * (i + 1)
    · rw [if_pos hle]
      have hm : min b (n - b * i) = n - b * i := by omega
      simp [stp, hm]
    · rw [if_neg hle]
      have hm : min b (n - b * i) = b := by omega
      have h0 : 0 < n - b * i - b := by omega
      have h1 : n - b * i - b = n - b * (i + 1) := by omega
      rw [h1] at h0
      simp only [stp, Bool.false_eq_true, if_false, hm, h1, if_pos h0, List.nil_append]
theorem part_dns (n b k i : Nat) (hn : 0 < n) (hb : 0 < b) (hk1 : n ≤ b * k) (hk2 : b * k ≤ n + b - 1) (h1 : 1 ≤ i) (hi : i ≤ k) (d : Dn) (hd : (dns ⟨0, []⟩ ((⟨true, n⟩ : Jb) :: List.replicate (k + 1) ⟨false, b⟩))[i]? = some d) : d.code = 0 ∧ d.over = (i == k) := by
  have hlt : i < ((⟨true, n⟩ : Jb) :: List.replicate (k + 1) ⟨false, b⟩).length := by simp; omega
  rw [List.getElem?_eq_getElem (by rw [dns_len]; exact hlt), dns_at _ _ _ hlt] at hd
  have hd := Option.some.inj hd
  obtain ⟨j, rfl⟩ : ∃ j, i = j + 1 := ⟨i - 1, by omega⟩
  have hbm : b * (j + 1) = b * j + b := by rw [Nat.mul_add]; omega
  have hmul : b * (j + 1) ≤ b * k := Nat.mul_le_mul_left _ hi
  have e1 : ((⟨true, n⟩ : Jb) :: List.replicate (k + 1) ⟨false, b⟩).take (j + 1) = (⟨true, n⟩ : Jb) :: List.replicate j ⟨false, b⟩ := by
    rw [List.take_succ_cons, List.take_replicate]; congr 2; omega
  have e2 : ((⟨true, n⟩ : Jb) :: List.replicate (k + 1) ⟨false, b⟩)[j + 1]'hlt = ⟨false, b⟩ := by simp
  have hj : ¬ n ≤ b * j := by
    intro h
    omega
  rw [e1, e2, part_run n b hn hb j (by omega), if_neg hj] at hd
  have hst : (stp ⟨1, [(0, n - b * j)]⟩ ⟨false, b⟩).2 = ⟨0, 0, min b (n - b * j), n - b * j - min b (n - b * j) == 0⟩ := by simp [stp]
  rw [hst] at hd
  subst hd
  refine ⟨rfl, ?_⟩
  show (n - b * j - min b (n - b * j) == 0) = (j + 1 == k)
  rw [Bool.eq_iff_iff, beq_iff_eq, beq_iff_eq]
  constructor
  · intro h
    rcases Nat.lt_or_ge (j + 1) k with h2 | h2
    · have : b * (j + 1 + 1) ≤ b * k := Nat.mul_le_mul_left _ h2
      have hbm2 : b * (j + 1 + 1) = b * (j + 1) + b := by rw [Nat.mul_add]; omega
      omega
    · omega
  · intro h; subst h; omega
theorem part_last (n b k : Nat) (hn : 0 < n) (hb : 0 < b) (hk1 : n ≤ b * k) (hk2 : b * k ≤ n + b - 1) (d : Dn) (hd : (dns ⟨0, []⟩ ((⟨true, n⟩ : Jb) :: List.replicate (k + 1) ⟨false, b⟩))[k + 1]? = some d) : d.code = 7 := by
  have hlt : k + 1 < ((⟨true, n⟩ : Jb) :: List.replicate (k + 1) ⟨false, b⟩).length := by simp
  rw [List.getElem?_eq_getElem (by rw [dns_len]; exact hlt), dns_at _ _ _ hlt] at hd
  have hd := Option.some.inj hd
  have e1 : ((⟨true, n⟩ : Jb) :: List.replicate (k + 1) ⟨false, b⟩).take (k + 1) = (⟨true, n⟩ : Jb) :: List.replicate k ⟨false, b⟩ := by
    rw [List.take_succ_cons, List.take_replicate]; congr 2; omega
  have e2 : ((⟨true, n⟩ : Jb) :: List.replicate (k + 1) ⟨false, b⟩)[k + 1]'hlt = ⟨false, b⟩ := by simp
  rw [e1, e2, part_run n b hn hb k hk2, if_pos hk1] at hd
  subst hd
  rfl
theorem CRow.at4 {α : Type} {x y z t : α → Value} {w : World} {B : Nat} {A : Option Addr} {xs : List α} (h : Reads w B 4 A xs.length (cellsOf (fun a => [x a, y a, z a, t a]) xs)) {i : Nat} (hi : i < xs.length) :
    ∃ b off, A = some ⟨b, off, none⟩ ∧ b < B ∧ w.cell? ⟨b, off + i * 4, none⟩ = some (x xs[i]) ∧ w.cell? ⟨b, off + i * 4 + 1, none⟩ = some (y xs[i]) ∧ w.cell? ⟨b, off + i * 4 + 2, none⟩ = some (z xs[i]) ∧ w.cell? ⟨b, off + i * 4 + 3, none⟩ = some (t xs[i]) := by
  obtain ⟨b, off, hA, hb, hx⟩ := CRow.at_ (cl := fun a => [x a, y a, z a, t a]) (fun _ => rfl) (by omega) h hi
  exact ⟨b, off, hA, hb, hx 0 _ rfl, by rw [Nat.add_assoc]; exact hx 1 _ rfl, by rw [Nat.add_assoc]; exact hx 2 _ rfl, by rw [Nat.add_assoc]; exact hx 3 _ rfl⟩

set_option maxRecDepth 100000 in
set_option maxHeartbeats 4000000 in
theorem schedParts_walk (w : World) (size : Int) (hsize : -9223372036854775808 ≤ size ∧ size ≤ 9223372036854775807) (budget : Int) (hbudget : -9223372036854775808 ≤ budget ∧ budget ≤ 9223372036854775807) :
    Calls Try.prog 5 #[.int .i64 size, .int .i64 budget] w fun e w' => e = .returned (.bool true) ∧ Below w.heap.size w w' := by
  have hps := fun W => picked_any size 600 W hsize (by omega) (by omega)
  have m1 := Int.emod_nonneg size (show (600 : Int) ≠ 0 by omega)
  have m2 := Int.emod_lt_of_pos size (show (0 : Int) < 600 by omega)
  obtain ⟨n0, hn0⟩ : ∃ n0 : Nat, size % 600 = (n0 : Int) := ⟨(size % 600).toNat, by omega⟩
  rw [hn0] at hps m1 m2
  have hpb := fun W => picked_any budget 50 W hbudget (by omega) (by omega)
  have m3 := Int.emod_nonneg budget (show (50 : Int) ≠ 0 by omega)
  have m4 := Int.emod_lt_of_pos budget (show (0 : Int) < 50 by omega)
  obtain ⟨b0, hb0⟩ : ∃ b0 : Nat, budget % 50 = (b0 : Int) := ⟨(budget % 50).toNat, by omega⟩
  rw [hb0] at hpb m3 m4
  have HPS := Lib.hid hps
  have HPB := Lib.hid hpb
  clear hps hpb hn0 hb0
  go_enter Try.func5, Try.ntmps5
  go_wp2_with fail
  refine (HPS.out _).mono ?_
  rintro e w' ⟨rfl, rfl⟩
  go_wp2_with fail
  refine (HPB.out _).mono ?_
  rintro e w' ⟨rfl, rfl⟩
  clear HPS HPB
  by_cases hmx : (1 : Int) + (b0 : Int) < (1 + (n0 : Int) + 69) / 70
  · have hE : ∃ b : Nat, (1 + (n0 : Int) + 69) / 70 = (b : Int) ∧ 1 ≤ b ∧ b ≤ 50 ∧ n0 + 1 ≤ 70 * b := ⟨(n0 + 70) / 70, by omega, by omega, by omega, by omega⟩
    have hmn : ¬ ((1 + (n0 : Int) + 69) / 70 ≤ (1 : Int) + (b0 : Int)) := by omega
    obtain ⟨b, hbe, hb1, hb2, hb3⟩ := hE
    go_wp2_with fail
    try rw [hbe]
    clear hmx hmn hbe
    obtain ⟨n, hn⟩ : ∃ n : Nat, n = n0 + 1 := ⟨_, rfl⟩
    have hne : 1 + (n0 : Int) = (n : Int) := by omega
    rw [hne]
    obtain ⟨k, hk⟩ : ∃ k : Nat, k = (n + b - 1) / b := ⟨_, rfl⟩
    have hke : ((n : Int) + (b : Int) - 1) / (b : Int) = (k : Int) := by
      rw [hk, Int.natCast_ediv]; congr 1; omega
    rw [hke]
    have hdm := Nat.div_add_mod (n + b - 1) b
    have hml := Nat.mod_lt (n + b - 1) (show 0 < b by omega)
    have hk1 : n ≤ b * k := by rw [hk]; omega
    have hk2 : b * k ≤ n + b - 1 := by rw [hk]; omega
    have hk70 : k ≤ 70 := by
      have : (n + b - 1) / b < 71 := (Nat.div_lt_iff_lt_mul (by omega)).2 (by omega)
      omega
    have hn600 : 1 ≤ n ∧ n ≤ 600 := by omega
    have hown0 : (w.alloc (.cells #[.int .i64 1, .int .i64 (n : Int)] 29)).ownsRow w.heap.size 29 2 (.slice (some ⟨w.heap.size, 0, none⟩) 1 1) 1 (cellsOf jbc ((⟨true, n⟩ : Jb) :: List.replicate 0 ⟨false, b⟩)) :=
      ⟨rfl, .inr ⟨_, 1, #[.int .i64 1, .int .i64 (n : Int)], rfl, Nat.le_refl _, heap_alloc_new w _, Nat.le_refl _, by decide, rfl, rfl⟩⟩
    clear hdm hml hke hne hn hk
    go_loopw [7, 9] (fun o i wr => ∃ i' : Nat, i' ≤ k + 1 ∧ i = .int .i64 i' ∧ wr.ownsRow w.heap.size 29 2 o (i' + 1) (cellsOf jbc ((⟨true, n⟩ : Jb) :: List.replicate i' ⟨false, b⟩)) ∧ Below w.heap.size w wr) (fun _ i _ => k + 1 - (intOf i).toNat)
    case atStart => exact ⟨0, by omega, rfl, hown0, (Below.refl _ _).alloc (Nat.le_refl _) _⟩
    case round =>
      clear hown0
      obtain ⟨i', hi', rfl, hown, hbel⟩ := hrel
      by_cases hlt : i' ≤ k
      · go_wp2_with (at_builtin; refine wpList_appN rfl (.tmp 37) (.tmp 40) _ rfl w.heap.size 29 _ 2 16 Try.underlying23 job_info rfl (by decide) _ (i' + 1) _ rfl hown [.int .i64 2, .int .i64 (b : Int)] rfl _ rfl rfl rfl (by simp [Value.oneCell']) (by omega) (by omega) hbel.size ?_)
        intro v' w3 hown3 hbel3 hg3
        replace hbel3 := hbel3 _ (Nat.le_refl _) _ hbel
        clear hown hg3 hbel
        go_wp2_with fail
        go_roundw
        case rel =>
          have e : cellsOf jbc ((⟨true, n⟩ : Jb) :: List.replicate (i' + 1) ⟨false, b⟩) = cellsOf jbc ((⟨true, n⟩ : Jb) :: List.replicate i' ⟨false, b⟩) ++ [.int .i64 2, .int .i64 (b : Int)] := by
            rw [List.replicate_succ', ← List.cons_append, cellsOf_snoc]; rfl
          exact ⟨i' + 1, by omega, by go_num, by rw [e]; exact hown3, hbel3⟩
        case measure => simp [intOf]; omega
      · obtain rfl : i' = k + 1 := by omega
        have hjl : ((⟨true, n⟩ : Jb) :: List.replicate (k + 1) ⟨false, b⟩).length = k + 1 + 1 := by simp
        rw [← hjl] at hown
        have hrow := CRow.of_own jbc_len hown
        have hok : ∀ j ∈ ((⟨true, n⟩ : Jb) :: List.replicate (k + 1) ⟨false, b⟩), okj j := fun j hj => by
          rcases List.mem_cons.1 hj with h | h
          · subst h; exact hn600.2
          · have := (List.mem_replicate.1 h).2; subst this
            exact ⟨hb1, hb2⟩
        have HFD := Lib.hid (fun i h1 h2 => part_dns n b k i (by omega) (by omega) hk1 hk2 h1 h2)
        have HLD := Lib.hid (part_last n b k (by omega) (by omega) hk1 hk2)
        have hdl : (dns ⟨0, []⟩ ((⟨true, n⟩ : Jb) :: List.replicate (k + 1) ⟨false, b⟩)).length = k + 2 := by rw [dns_len]; exact hjl
        have hjl2 : ((⟨true, n⟩ : Jb) :: List.replicate (k + 1) ⟨false, b⟩).length ≤ 80 := by rw [hjl]; omega
        generalize ((⟨true, n⟩ : Jb) :: List.replicate (k + 1) ⟨false, b⟩) = js at *
        clear hown hjl
        go_wp2_with fail
        refine (turned_any _ js _ hrow hok hjl2).mono ?_
        rintro e w4 ⟨v4, rfl, hdr, hb4⟩
        have k4 := bstep hbel hb4
        clear hrow hok hbel hb4 hjl2 hk1 hk2
        generalize dns ⟨0, []⟩ js = ds at *
        obtain ⟨Ad, cd, rfl, hld, hcd, hrd4⟩ := hdr
        have HRD := Lib.hid hrd4
        rw [hdl] at hld ⊢
        have HDL := Lib.hid hdl
        clear hrd4 hdl
        unfold maxLen at hcd
        go_wp2_with fail
        go_loopw [12] (fun i w5 => ∃ t q : Nat, 1 ≤ t ∧ t ≤ k + 1 ∧ i = .int .i64 t ∧ w5 = w4.drewN q) (fun i _ => k + 1 - (intOf i).toNat)
        case atStart => exact ⟨1, 0, Nat.le_refl _, by omega, rfl, rfl⟩
        case round =>
          obtain ⟨t, q, ht1, ht, rfl, rfl⟩ := hrel
          by_cases hlt : t ≤ k
          · have hkd : t < ds.length := by rw [HDL.out]; omega
            obtain ⟨bd, od, hA, hbd, cd0, cd1, cd2, cd3⟩ := CRow.at4 (x := fun d : Dn => .int .i64 (d.code : Int)) (y := fun d => .int .i64 (d.task : Int)) (z := fun d => .int .i64 (d.bytes : Int)) (t := fun d => .bool d.over) HRD.out hkd
            subst hA
            obtain ⟨d1, d2⟩ := HFD.out t ht1 hlt ds[t] (List.getElem?_eq_getElem hkd)
            rw [d1] at cd0
            rw [d2] at cd3
            replace cd0 : _ = some (Value.int .i64 0) := cd0
            have ht0 : (0 : Int) ≤ (t : Int) := by omega
            have ht2 : (t : Int) < (k : Int) + 2 := by omega
            clear d1 d2 cd1 cd2
            obtain ⟨qb, hqb⟩ : ∃ qb : Bool, (t == k) = qb := ⟨_, rfl⟩
            have hqb2 : ((t : Int) == (k : Int)) = qb := by rw [← hqb, Bool.eq_iff_iff, beq_iff_eq, beq_iff_eq]; omega
            rw [hqb] at cd3
            cases qb
            · clear hqb
              go_wp2_with fail
              go_roundw
              case rel => exact ⟨t + 1, q, by omega, by omega, by go_num, rfl⟩
              case measure => simp [intOf]; omega
            · clear hqb
              go_wp2_with fail
              go_roundw
              case rel => exact ⟨t + 1, q, by omega, by omega, by go_num, rfl⟩
              case measure => simp [intOf]; omega
          · have hkd : k + 1 < ds.length := by rw [HDL.out]; omega
            obtain ⟨bd, od, hA, hbd, cd0, cd1, cd2, cd3⟩ := CRow.at4 (x := fun d : Dn => .int .i64 (d.code : Int)) (y := fun d => .int .i64 (d.task : Int)) (z := fun d => .int .i64 (d.bytes : Int)) (t := fun d => .bool d.over) HRD.out hkd
            subst hA
            rw [HLD.out ds[k + 1] (List.getElem?_eq_getElem hkd)] at cd0
            replace cd0 : _ = some (Value.int .i64 7) := cd0
            clear cd1 cd2 cd3
            have ht0 : (0 : Int) ≤ (k : Int) + 1 := by omega
            go_wp2_with fail
            go_ret
            exact ⟨rfl, below_drewN k4 _⟩
  · have hE : ∃ b : Nat, (1 : Int) + (b0 : Int) = (b : Int) ∧ 1 ≤ b ∧ b ≤ 50 ∧ n0 + 1 ≤ 70 * b := ⟨1 + b0, by omega, by omega, by omega, by omega⟩
    have hmn : (1 + (n0 : Int) + 69) / 70 ≤ (1 : Int) + (b0 : Int) := by omega
    obtain ⟨b, hbe, hb1, hb2, hb3⟩ := hE
    go_wp2_with fail
    try rw [hbe]
    clear hmx hmn hbe
    obtain ⟨n, hn⟩ : ∃ n : Nat, n = n0 + 1 := ⟨_, rfl⟩
    have hne : 1 + (n0 : Int) = (n : Int) := by omega
    rw [hne]
    obtain ⟨k, hk⟩ : ∃ k : Nat, k = (n + b - 1) / b := ⟨_, rfl⟩
    have hke : ((n : Int) + (b : Int) - 1) / (b : Int) = (k : Int) := by
      rw [hk, Int.natCast_ediv]; congr 1; omega
    rw [hke]
    have hdm := Nat.div_add_mod (n + b - 1) b
    have hml := Nat.mod_lt (n + b - 1) (show 0 < b by omega)
    have hk1 : n ≤ b * k := by rw [hk]; omega
    have hk2 : b * k ≤ n + b - 1 := by rw [hk]; omega
    have hk70 : k ≤ 70 := by
      have : (n + b - 1) / b < 71 := (Nat.div_lt_iff_lt_mul (by omega)).2 (by omega)
      omega
    have hn600 : 1 ≤ n ∧ n ≤ 600 := by omega
    have hown0 : (w.alloc (.cells #[.int .i64 1, .int .i64 (n : Int)] 29)).ownsRow w.heap.size 29 2 (.slice (some ⟨w.heap.size, 0, none⟩) 1 1) 1 (cellsOf jbc ((⟨true, n⟩ : Jb) :: List.replicate 0 ⟨false, b⟩)) :=
      ⟨rfl, .inr ⟨_, 1, #[.int .i64 1, .int .i64 (n : Int)], rfl, Nat.le_refl _, heap_alloc_new w _, Nat.le_refl _, by decide, rfl, rfl⟩⟩
    clear hdm hml hke hne hn hk
    go_loopw [7, 9] (fun o i wr => ∃ i' : Nat, i' ≤ k + 1 ∧ i = .int .i64 i' ∧ wr.ownsRow w.heap.size 29 2 o (i' + 1) (cellsOf jbc ((⟨true, n⟩ : Jb) :: List.replicate i' ⟨false, b⟩)) ∧ Below w.heap.size w wr) (fun _ i _ => k + 1 - (intOf i).toNat)
    case atStart => exact ⟨0, by omega, rfl, hown0, (Below.refl _ _).alloc (Nat.le_refl _) _⟩
    case round =>
      clear hown0
      obtain ⟨i', hi', rfl, hown, hbel⟩ := hrel
      by_cases hlt : i' ≤ k
      · go_wp2_with (at_builtin; refine wpList_appN rfl (.tmp 37) (.tmp 40) _ rfl w.heap.size 29 _ 2 16 Try.underlying23 job_info rfl (by decide) _ (i' + 1) _ rfl hown [.int .i64 2, .int .i64 (b : Int)] rfl _ rfl rfl rfl (by simp [Value.oneCell']) (by omega) (by omega) hbel.size ?_)
        intro v' w3 hown3 hbel3 hg3
        replace hbel3 := hbel3 _ (Nat.le_refl _) _ hbel
        clear hown hg3 hbel
        go_wp2_with fail
        go_roundw
        case rel =>
          have e : cellsOf jbc ((⟨true, n⟩ : Jb) :: List.replicate (i' + 1) ⟨false, b⟩) = cellsOf jbc ((⟨true, n⟩ : Jb) :: List.replicate i' ⟨false, b⟩) ++ [.int .i64 2, .int .i64 (b : Int)] := by
            rw [List.replicate_succ', ← List.cons_append, cellsOf_snoc]; rfl
          exact ⟨i' + 1, by omega, by go_num, by rw [e]; exact hown3, hbel3⟩
        case measure => simp [intOf]; omega
      · obtain rfl : i' = k + 1 := by omega
        have hjl : ((⟨true, n⟩ : Jb) :: List.replicate (k + 1) ⟨false, b⟩).length = k + 1 + 1 := by simp
        rw [← hjl] at hown
        have hrow := CRow.of_own jbc_len hown
        have hok : ∀ j ∈ ((⟨true, n⟩ : Jb) :: List.replicate (k + 1) ⟨false, b⟩), okj j := fun j hj => by
          rcases List.mem_cons.1 hj with h | h
          · subst h; exact hn600.2
          · have := (List.mem_replicate.1 h).2; subst this
            exact ⟨hb1, hb2⟩
        have HFD := Lib.hid (fun i h1 h2 => part_dns n b k i (by omega) (by omega) hk1 hk2 h1 h2)
        have HLD := Lib.hid (part_last n b k (by omega) (by omega) hk1 hk2)
        have hdl : (dns ⟨0, []⟩ ((⟨true, n⟩ : Jb) :: List.replicate (k + 1) ⟨false, b⟩)).length = k + 2 := by rw [dns_len]; exact hjl
        have hjl2 : ((⟨true, n⟩ : Jb) :: List.replicate (k + 1) ⟨false, b⟩).length ≤ 80 := by rw [hjl]; omega
        generalize ((⟨true, n⟩ : Jb) :: List.replicate (k + 1) ⟨false, b⟩) = js at *
        clear hown hjl
        go_wp2_with fail
        refine (turned_any _ js _ hrow hok hjl2).mono ?_
        rintro e w4 ⟨v4, rfl, hdr, hb4⟩
        have k4 := bstep hbel hb4
        clear hrow hok hbel hb4 hjl2 hk1 hk2
        generalize dns ⟨0, []⟩ js = ds at *
        obtain ⟨Ad, cd, rfl, hld, hcd, hrd4⟩ := hdr
        have HRD := Lib.hid hrd4
        rw [hdl] at hld ⊢
        have HDL := Lib.hid hdl
        clear hrd4 hdl
        unfold maxLen at hcd
        go_wp2_with fail
        go_loopw [12] (fun i w5 => ∃ t q : Nat, 1 ≤ t ∧ t ≤ k + 1 ∧ i = .int .i64 t ∧ w5 = w4.drewN q) (fun i _ => k + 1 - (intOf i).toNat)
        case atStart => exact ⟨1, 0, Nat.le_refl _, by omega, rfl, rfl⟩
        case round =>
          obtain ⟨t, q, ht1, ht, rfl, rfl⟩ := hrel
          by_cases hlt : t ≤ k
          · have hkd : t < ds.length := by rw [HDL.out]; omega
            obtain ⟨bd, od, hA, hbd, cd0, cd1, cd2, cd3⟩ := CRow.at4 (x := fun d : Dn => .int .i64 (d.code : Int)) (y := fun d => .int .i64 (d.task : Int)) (z := fun d => .int .i64 (d.bytes : Int)) (t := fun d => .bool d.over) HRD.out hkd
            subst hA
            obtain ⟨d1, d2⟩ := HFD.out t ht1 hlt ds[t] (List.getElem?_eq_getElem hkd)
            rw [d1] at cd0
            rw [d2] at cd3
            replace cd0 : _ = some (Value.int .i64 0) := cd0
            have ht0 : (0 : Int) ≤ (t : Int) := by omega
            have ht2 : (t : Int) < (k : Int) + 2 := by omega
            clear d1 d2 cd1 cd2
            obtain ⟨qb, hqb⟩ : ∃ qb : Bool, (t == k) = qb := ⟨_, rfl⟩
            have hqb2 : ((t : Int) == (k : Int)) = qb := by rw [← hqb, Bool.eq_iff_iff, beq_iff_eq, beq_iff_eq]; omega
            rw [hqb] at cd3
            cases qb
            · clear hqb
              go_wp2_with fail
              go_roundw
              case rel => exact ⟨t + 1, q, by omega, by omega, by go_num, rfl⟩
              case measure => simp [intOf]; omega
            · clear hqb
              go_wp2_with fail
              go_roundw
              case rel => exact ⟨t + 1, q, by omega, by omega, by go_num, rfl⟩
              case measure => simp [intOf]; omega
          · have hkd : k + 1 < ds.length := by rw [HDL.out]; omega
            obtain ⟨bd, od, hA, hbd, cd0, cd1, cd2, cd3⟩ := CRow.at4 (x := fun d : Dn => .int .i64 (d.code : Int)) (y := fun d => .int .i64 (d.task : Int)) (z := fun d => .int .i64 (d.bytes : Int)) (t := fun d => .bool d.over) HRD.out hkd
            subst hA
            rw [HLD.out ds[k + 1] (List.getElem?_eq_getElem hkd)] at cd0
            replace cd0 : _ = some (Value.int .i64 7) := cd0
            clear cd1 cd2 cd3
            have ht0 : (0 : Int) ≤ (k : Int) + 1 := by omega
            go_wp2_with fail
            go_ret
            exact ⟨rfl, below_drewN k4 _⟩
end Go.Proofs.Ytifjahfolmhhpaa
