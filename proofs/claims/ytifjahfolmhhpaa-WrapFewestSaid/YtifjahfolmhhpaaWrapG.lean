/-
  The walks of Widths, wrap.Check and wrap.Greedy at widths that may be: where greedy lines begin. Nothing that was there is changed.
-/
import Derived.Test.YtifjahfolmhhpaaText
import Derived.Test.YtifjahfolmhhpaaMix
import Derived.Shelf.SlicesE.IndexFunc
import Derived.BigQuiet
import Derived.Deep.QuietTactic
namespace Go.Proofs.Ytifjahfolmhhpaa
open Go.RowKit Go.Shelf Go.Lib Go.Sort
set_option linter.unusedVariables false

theorem wfi (x : Int) (h : -9223372036854775808 ≤ x ∧ x ≤ 9223372036854775807) : (Lit.int .i64 x).wf = true := by
  simp [Lit.wf, IntKind.min, IntKind.max, IntKind.signed, IntKind.bits]; omega
/-- The starts of greedy lines: free columns of the line as it stands, the next word's number, the words' widths that are left. -/
def gr (w : Int) : Int → Nat → List Int → List Nat
  | _, _, [] => []
  | f, i, n :: l => if n > f - 1 then i :: gr w (w - n) (i + 1) l else gr w (f - (n + 1)) (i + 1) l
/-- The free columns behind words. -/
def fr (w : Int) : Int → List Int → Int
  | f, [] => f
  | f, n :: l => if n > f - 1 then fr w (w - n) l else fr w (f - (n + 1)) l
theorem gr_append (w : Int) (b : List Int) : ∀ (a : List Int) (f : Int) (i : Nat), gr w f i (a ++ b) = gr w f i a ++ gr w (fr w f a) (i + a.length) b := by
  intro a
  induction a with
  | nil => intro f i; rfl
  | cons n a ih =>
    intro f i
    have e : i + 1 + a.length = i + (n :: a).length := by simp; omega
    by_cases h : n > f - 1
    · simp only [List.cons_append, gr, fr, if_pos h, ih, e]
    · simp only [List.cons_append, gr, fr, if_neg h, ih, e]
theorem fr_append (w : Int) (b : List Int) : ∀ (a : List Int) (f : Int), fr w f (a ++ b) = fr w (fr w f a) b := by
  intro a
  induction a with
  | nil => intro f; rfl
  | cons n a ih =>
    intro f
    by_cases h : n > f - 1
    · simp only [List.cons_append, fr, if_pos h, ih]
    · simp only [List.cons_append, fr, if_neg h, ih]
theorem gr_len (w : Int) (l : List Int) : ∀ (f : Int) (i : Nat), (gr w f i l).length ≤ l.length := by
  induction l with
  | nil => intro f i; simp [gr]
  | cons n l ih =>
    intro f i
    by_cases h : n > f - 1
    · have := ih (w - n) (i + 1); simp only [gr, if_pos h, List.length_cons]; omega
    · have := ih (f - (n + 1)) (i + 1); simp only [gr, if_neg h, List.length_cons]; omega
theorem gr_bd (w : Int) (l : List Int) : ∀ (f : Int) (i : Nat), ∀ x ∈ gr w f i l, i ≤ x ∧ x < i + l.length := by
  induction l with
  | nil => intro f i x hx; simp [gr] at hx
  | cons n l ih =>
    intro f i x hx
    by_cases h : n > f - 1
    · simp only [gr, if_pos h, List.mem_cons] at hx
      rcases hx with rfl | hx
      · simp
      · have := ih _ _ x hx; simp; omega
    · simp only [gr, if_neg h] at hx
      have := ih _ _ x hx; simp; omega
theorem fr_bd (w : Int) (l : List Int) (hl : ∀ n ∈ l, 1 ≤ n ∧ n ≤ w) (hw : 1 ≤ w) : ∀ (f : Int), -1 ≤ f → f ≤ w → -1 ≤ fr w f l ∧ fr w f l ≤ w := by
  induction l with
  | nil => intro f h1 h2; exact ⟨h1, h2⟩
  | cons n l ih =>
    intro f h1 h2
    have hn := hl n (by simp)
    by_cases h : n > f - 1
    · simp only [fr, if_pos h]; exact ih (fun m hm => hl m (by simp [hm])) _ (by omega) (by omega)
    · simp only [fr, if_neg h]; exact ih (fun m hm => hl m (by simp [hm])) _ (by omega) (by omega)
def WidthsPost (n : Nat) (wd : Int) (w : World) (e : Ending) (w' : World) : Prop := ∃ (v : Value) (ws : List Int), e = .returned v ∧ w'.ownsRow w.heap.size 3 1 v ws.length (ws.map (.int .i64)) ∧ (∀ x ∈ ws, 1 ≤ x ∧ x ≤ wd) ∧ ws.length ≤ n ∧ Below w.heap.size w w'

set_option maxRecDepth 100000 in
set_option maxHeartbeats 2000000 in
theorem widths_any (v : Value) (xs : List Int) (n : Nat) (wd : Int) (w : World) (hr : Row .i64 w v xs) (hn : n ≤ 1000) (hwd : 1 ≤ wd) (hwd2 : wd ≤ 60) :
    Calls Try.prog 32 #[v, .int .i64 n, .int .i64 wd] w (WidthsPost n wd w) := by
  obtain ⟨i0, hi, hz0, hz1, hz2⟩ := info_parts int_info
  have hbd := hr.bd
  obtain ⟨A, c, rfl, hl, hc, hw, hrd⟩ := hr
  unfold maxLen at hc
  go_enter Try.func32, Try.ntmps32
  go_wp2
  go_loopw [7, 8] (fun o i wr => ∃ (k : Nat) (ws : List Int), k ≤ xs.length ∧ k ≤ n ∧ i = .int .i64 k ∧ ws.length = k ∧ (∀ x ∈ ws, 1 ≤ x ∧ x ≤ wd) ∧ wr.ownsRow w.heap.size 3 1 o k (ws.map (.int .i64)) ∧ Below w.heap.size w wr) (fun _ i _ => xs.length - (intOf i).toNat)
  case atStart => exact ⟨0, [], Nat.zero_le _, Nat.zero_le _, rfl, rfl, by simp, World.ownsRow_nil _ _ _ _, Below.refl _ _⟩
  case round =>
    obtain ⟨k, ws, hk, hkn, rfl, hwl, hws, hown, hbel⟩ := hrel
    by_cases hlt : k < xs.length
    · by_cases hlt2 : k < n
      · obtain ⟨b0, o0, rfl, hb0, hcell⟩ := Row.at_ hrd hlt
        have hb := hbd k
        generalize hg : xs.getD k 0 = x at *
        have hcell' : wr.cell? ⟨b0, o0 + k, none⟩ = some (.int .i64 x) := (hbel.cell (p := ⟨b0, o0 + k, none⟩) hb0).trans hcell
        obtain ⟨m, hm⟩ : ∃ m : Int, min wd 12 = m := ⟨_, rfl⟩
        have hm1 : 1 ≤ m ∧ m ≤ wd := by omega
        have hq1 := Int.emod_nonneg x (show m ≠ 0 by omega)
        have hq2 := Int.emod_lt_of_pos x (show 0 < m by omega)
        have P1 := Lib.hid (fun W => picked_any x m W hb (by omega) (by omega))
        generalize x % m = q at *
        rw [← hm] at P1
        have hqd : 0 ≤ q ∧ q < wd := by omega
        clear hm hq1 hq2 hm1
        go_wp2_with fail
        refine (P1.out _).mono ?_
        rintro e w' ⟨rfl, rfl⟩
        go_wp2_with (at_builtin; refine wpList_app1 rfl (.tmp 20) (.tmp 29) _ rfl w.heap.size 3 _ 8 Try.underlying22 int_info rfl _ _ _ rfl hown (.int .i64 (1 + q)) rfl rfl rfl (by omega) (by omega) hbel.size ?_)
        intro v' w1 hown' hbel' _
        replace hbel' := hbel' _ (Nat.le_refl _) _ hbel
        go_wp2
        go_roundw
        case rel =>
          refine ⟨k + 1, ws ++ [1 + q], by omega, by omega, by go_num, by simp [hwl], ?_, by simpa using hown', hbel'⟩
          intro y hy
          rcases List.mem_append.1 hy with h | h
          · exact hws y h
          · simp at h; subst h; omega
        case measure => simp [intOf]; omega
      · go_wp2
        go_ret
        exact ⟨_, ws, rfl, by rw [hwl]; exact hown, hws, by omega, hbel⟩
    · go_wp2
      go_ret
      exact ⟨_, ws, rfl, by rw [hwl]; exact hown, hws, by omega, hbel⟩

def hasIntL_ren : Go.Shelf.Ren := ⟨fun | 6 => 71 | 8 => 67 | n => n, fun | 0 => 0 | 3 => 3 | 4 => 4 | 22 => 22 | 23 => 3 | 25 => 124 | n => n, fun n => n⟩
theorem hasIntL : SlLaysH.n8 Try.prog hasIntL_ren := {
  mixed := by kernel_rfl
  f6 := ⟨Try.f71.name, by decide, Try.func71.trans (congrArg some (by kernel_rfl))⟩
  f8 := ⟨Try.f67.name, by decide, Try.func67.trans (congrArg some (by kernel_rfl))⟩
  t0 := Try.underlying0
  a0 := Try.isAgg0
  z0 := Try.sizeOf0
  v0 := Try.zeroValue0
  t3 := Try.underlying3
  a3 := Try.isAgg3
  z3 := Try.sizeOf3
  v3 := Try.zeroValue3
  t4 := Try.underlying4
  a4 := Try.isAgg4
  z4 := Try.sizeOf4
  v4 := Try.zeroValue4
  t22 := Try.underlying22
  a22 := Try.isAgg22
  z22 := Try.sizeOf22
  v22 := Try.zeroValue22
  a23 := Try.isAgg3
  z23 := Try.sizeOf3
  t25 := Try.underlying124
  a25 := Try.isAgg124
  z25 := Try.sizeOf124
  v25 := Try.zeroValue124 }

def badW (wd : Int) (n : Int) : Bool := decide (n < 1) || decide (wd < n)
set_option maxRecDepth 100000 in
set_option maxHeartbeats 1000000 in
theorem checkClosure_any (n wd : Int) (g : Nat) (w : World) (hc : w.cell? ⟨g, 0, none⟩ = some (.int .i64 wd)) :
    Calls Try.prog 68 #[.int .i64 n, .pointer (some ⟨g, 0, none⟩)] w fun e w' => e = .returned (.bool (badW wd n)) ∧ ∃ q, w' = w.drewN q := by
  unfold badW
  by_cases h : n < 1
  · have hd : decide (n < 1) = true := by simp; omega
    go_enter Try.func68, Try.ntmps68
    go_wp2
    try (go_quiet (fail))
    go_wp2
    go_ret
    exact ⟨by simp [h], by first | exact ⟨0, rfl⟩ | exact ⟨_, rfl⟩⟩
  · have hd : decide (n < 1) = false := by simp; omega
    go_enter Try.func68, Try.ntmps68
    go_wp2
    try (go_quiet (fail))
    go_wp2
    go_ret
    exact ⟨by simp, by first | exact ⟨0, rfl⟩ | exact ⟨_, rfl⟩⟩
theorem hasInt_any (v : Value) (ws : List Int) (wd : Int) (g : Nat) (w : World) (h : Row .i64 w v ws) (hb : ∀ x ∈ ws, 1 ≤ x ∧ x ≤ wd) (hl : ws.length ≤ 1000) (hc : w.cell? ⟨g, 0, none⟩ = some (.int .i64 wd)) :
    Calls Try.prog 67 #[v, .func (.func 68) #[] #[.pointer (some ⟨g, 0, none⟩)]] w fun e w' => e = .returned (.bool false) ∧ Below w.heap.size w w' := by
  have hg := block_lt_of_cell (a := ⟨g, 0, none⟩) hc
  obtain ⟨A, c, rfl, h1, h2, h3, hr⟩ := h
  by_cases hn : ws.length = 0
  · obtain rfl : ws = [] := List.length_eq_zero_iff.1 hn
    exact (AnyE.slices_ContainsFunc_empty hasIntL A c _ w).mono fun e w' h => ⟨h.1, by rw [h.2]; exact Below.refl _ _⟩
  · obtain ⟨b, off, rfl, hlt, hcell⟩ := hr.plain (by omega) (by omega)
    have hcl := AnyE.slices_ContainsFunc hasIntL (Value.int .i64) (badW wd) 68 #[.pointer (some ⟨g, 0, none⟩)] (fun args w => by kernel_rfl) b off ws.length c ws w
      (fun W x hb' => checkClosure_any x wd g W ((hb'.cell (p := ⟨g, 0, none⟩) hg).trans hc)) (Nat.le_refl _) (by omega)
      (fun j hj => hcell j _ (by rw [List.getElem?_map, List.getElem?_eq_getElem hj, getElem!_pos ws j hj]; rfl))
    have hany : (ws.take ws.length).any (badW wd) = false := by
      rw [List.take_length, List.any_eq_false]
      intro m h; have := hb m h; simp [badW]; omega
    rw [hany] at hcl
    exact hcl.mono fun e w' ⟨he, q, hq⟩ => ⟨he, by rw [hq]; exact below_drewN (Below.refl _ _) q⟩

set_option maxRecDepth 100000 in
set_option maxHeartbeats 1000000 in
theorem wrapCheck_any (v : Value) (ws : List Int) (wd : Int) (w : World) (h : Row .i64 w v ws) (hb : ∀ x ∈ ws, 1 ≤ x ∧ x ≤ wd) (hl : ws.length ≤ 80) (h1 : 1 ≤ wd) (h2 : wd ≤ 60) :
    Calls Try.prog 55 #[v, .int .i64 wd] w fun e w' => e = .returned (.int .i64 0) ∧ Below w.heap.size w w' := by
  have h' := h.later ((Below.refl w.heap.size w).alloc (Nat.le_refl _) (.cells #[.int .i64 wd] 3))
  have hc : (w.alloc (.cells #[.int .i64 wd] 3)).cell? ⟨w.heap.size, 0, none⟩ = some (.int .i64 wd) := by rw [(Blk.new w 3 #[.int .i64 wd]).cell]; rfl
  have H := Lib.hid (hasInt_any v ws wd w.heap.size (w.alloc (.cells #[.int .i64 wd] 3)) (by exact h') hb (by omega) (by exact hc))
  obtain ⟨A, c, rfl, hl1, hl2, h3, hr⟩ := h
  clear h' hr h3
  unfold maxLen at hl2
  have hd1 : decide (80 < (ws.length : Int)) = false := by simp; omega
  have hd2 : decide (wd < 1) = false := by simp; omega
  have hd3 : decide (60 < wd) = false := by simp; omega
  go_enter Try.func55, Try.ntmps55
  go_wp2_with fail
  refine H.out.mono ?_
  rintro e w1 ⟨rfl, hb1⟩
  clear H
  go_wp2
  go_ret
  exact ⟨rfl, ((Below.refl _ _).alloc (Nat.le_refl _) _).trans (hb1.mono (by simp))⟩

def GreedyPost (wd : Int) (ws : List Int) (w : World) (e : Ending) (w' : World) : Prop := ∃ v, e = .returned (.tuple #[v, .int .i64 0]) ∧ w'.ownsRow w.heap.size 3 1 v (gr wd (-1) 0 ws).length ((gr wd (-1) 0 ws).map fun (x : Nat) => Value.int .i64 (x : Int)) ∧ Below w.heap.size w w'
set_option maxRecDepth 100000 in
set_option maxHeartbeats 2000000 in
theorem greedy_any (v : Value) (ws : List Int) (wd : Int) (w : World) (h : Row .i64 w v ws) (hb : ∀ x ∈ ws, 1 ≤ x ∧ x ≤ wd) (hl : ws.length ≤ 80) (h1 : 1 ≤ wd) (h2 : wd ≤ 60) :
    Calls Try.prog 33 #[v, .int .i64 wd] w (GreedyPost wd ws w) := by
  have H := Lib.hid (wrapCheck_any v ws wd w h hb hl h1 h2)
  obtain ⟨A, c, rfl, hl1, hl2, h3, hr⟩ := h
  clear h3
  unfold maxLen at hl2
  have HG := Lib.hid (gr_len wd)
  have HF := Lib.hid (fr_bd wd)
  go_enter Try.func33, Try.ntmps33
  go_wp2_with fail
  refine H.out.mono ?_
  rintro e w1 ⟨rfl, hb1⟩
  clear H
  go_wp2_with fail
  go_loopw [7, 8, 19] (fun o f i wr => ∃ k : Nat, k ≤ ws.length ∧ i = .int .i64 k ∧ f = .int .i64 (fr wd (-1) (ws.take k)) ∧ wr.ownsRow w.heap.size 3 1 o (gr wd (-1) 0 (ws.take k)).length ((gr wd (-1) 0 (ws.take k)).map fun (x : Nat) => Value.int .i64 (x : Int)) ∧ Below w.heap.size w wr) (fun _ _ i _ => ws.length - (intOf i).toNat)
  case atStart => exact ⟨0, Nat.zero_le _, rfl, rfl, World.ownsRow_nil _ _ _ _, hb1⟩
  case round =>
    clear hb1
    obtain ⟨k, hk, rfl, rfl, hown, hbel⟩ := hrel
    by_cases hlt : k < ws.length
    · obtain ⟨b0, o0, rfl, hb0, hcell⟩ := Row.at_ (hr.below hbel) hlt
      have hb0' := Nat.lt_of_lt_of_le hb0 hbel.size
      have hx := hb (ws[k]) (List.getElem_mem hlt)
      have hfb := HF.out (ws.take k) (fun n hn => hb n (List.mem_of_mem_take hn)) h1 (-1) (by omega) (by omega)
      have hgl := HG.out (ws.take k) (-1) 0
      have htk : ws.take (k + 1) = ws.take k ++ [ws[k]] := List.take_succ_eq_append_getElem hlt
      have hlk : (ws.take k).length = k := by simp; omega
      have hG := gr_append wd [ws[k]] (ws.take k) (-1) 0
      have hF := fr_append wd [ws[k]] (ws.take k) (-1)
      rw [← htk, hlk, Nat.zero_add] at hG
      rw [← htk] at hF
      rw [hlk] at hgl
      have eg : ws.getD k 0 = ws[k] := by simp [List.getD, hlt]
      rw [eg] at hcell
      have hz : k = 0 → fr wd (-1) (ws.take k) = -1 := by intro h; subst h; rfl
      generalize ws[k] = x at *
      generalize fr wd (-1) (ws.take k) = f at *
      generalize gr wd (-1) 0 (ws.take k) = G at *
      by_cases hgt : x > f - 1
      · simp only [gr, fr, if_pos hgt] at hG hF
        have HG' := Lib.hid hG
        have HF' := Lib.hid hF
        clear hG hF eg htk hlk hz
        go_wp2_with (at_builtin; refine wpList_app1 rfl (.tmp 32) (.tmp 34) _ rfl w.heap.size 3 _ 8 Try.underlying22 int_info rfl _ _ _ rfl hown (.int .i64 (k : Int)) rfl rfl rfl (by omega) (by omega) hbel.size ?_)
        intro v' w2 hown' hbel' _
        replace hbel' := hbel' _ (Nat.le_refl _) _ hbel
        go_wp2
        go_roundw
        case rel => exact ⟨k + 1, by omega, by go_num, by rw [HF'.out], by rw [HG'.out]; simpa using hown', hbel'⟩
        case measure => simp [intOf]; omega
      · have hk0 : ((k : Int) == 0) = false := by
          rw [beq_eq_false_iff_ne]; intro h
          have := hz (by omega)
          omega
        simp only [gr, fr, if_neg hgt, List.append_nil] at hG hF
        have HG' := Lib.hid hG
        have HF' := Lib.hid hF
        clear hG hF eg htk hlk hz
        go_wp2
        go_roundw
        case rel => exact ⟨k + 1, by omega, by go_num, by rw [HF'.out], by rw [HG'.out]; exact hown, hbel⟩
        case measure => simp [intOf]; omega
    · obtain rfl : k = ws.length := by omega
      rw [List.take_length] at hown
      go_wp2
      go_ret2
      exact ⟨_, rfl, hown, hbel⟩
end Go.Proofs.Ytifjahfolmhhpaa
