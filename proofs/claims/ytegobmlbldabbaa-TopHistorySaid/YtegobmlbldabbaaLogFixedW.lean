/-
  The walk of the law LogFixed: whatever its input, it returns true and changes nothing that was there.
-/
import Derived.Test.YtegobmlbldabbaaLogD
import Derived.Test.YtegobmlbldabbaaCopy
namespace Go.Proofs.Ytegobmlbldabbaa
open Go.RowKit
set_option linter.unusedVariables false

section
variable {P : Program}
/-- A copy of what reads as cells, of any length that fits. -/
theorem wpList_copyBig {w : World} {ops : Array Oper} {rest : List Oper} {o : Oper} {a : Act} {Q : Exit → Act → World → Prop} (hgd : o.guard = none) (x : Operand) (t : TypeId)
    (ho : o.op = .call { callee := .builtin .append, args := #[.const (.slice none 0 0), x], argTypes := #[t, t] })
    (e : TypeId) (z : Value) (size bytes : Nat) (ht : P.underlying t = some (.slice e)) (hi : (P.info? e).map (fun i => (i.zero, i.size, i.bytes)) = some (some z, size, bytes)) (hzs : z.cells.size = size) (hsz : 0 < size)
    (A : Option Addr) (m c : Nat) (news : List Value) (hx : a.eval x = .slice A m c) (hr : Reads w w.heap.size size A m news) (h1 : ∀ u ∈ news, u.oneCell' = true)
    (hbytes : m * bytes ≤ 140737488355328) (hm : m ≤ maxLen)
    (h : ∀ v' w', w'.ownsRow w.heap.size e size v' m news → Below w.heap.size w w' → wpList P ops Q rest (a.put o.dst v') w') : wpList P ops Q (o :: rest) a w := by
  obtain ⟨i, hi0, hz0, hzz, hzb⟩ := info_parts hi
  refine wpList_append_any w hgd (.const (.slice none 0 0)) x t ho w.heap.size e i z size bytes ht hi0 hz0 hzz hzb hzs hsz (.slice none 0 0) 0 [] rfl (World.ownsRow_nil _ _ _ _) w.heap.size A m c news hx hr h1 (by rw [Nat.zero_add]; exact hm) (by rw [Nat.zero_add]; exact hbytes) (Nat.le_refl _) ?_
  intro v' w' h2 h3 h4
  rw [Nat.zero_add, List.nil_append] at h2
  exact h v' w' h2 ((Below.refl _ _).grown h3 (Nat.le_refl _) (by simp [Value.ownBlock]))
end
def bl (xs : List Int) : List UInt8 := xs.map fun x => UInt8.ofNat x.toNat
theorem bl_len (xs : List Int) : (bl xs).length = xs.length := by simp [bl]
theorem by8_bl (xs : List Int) (h : ∀ x ∈ xs, (Lit.int .u8 x).wf = true) : by8 (bl xs) = xs.map (.int .u8) := by
  simp only [by8, bl, List.map_map]
  refine List.map_congr_left fun x hx => ?_
  have hb := bounds_u8 (h x hx)
  have : (UInt8.ofNat x.toNat).toNat = x.toNat := by simp only [UInt8.toNat_ofNat']; omega
  simp only [Function.comp_apply, this]
  congr 1
  omega
set_option maxRecDepth 100000 in
theorem Load_short (A : Option Addr) (c : Nat) (b : List UInt8) (w : World) (h12 : b.length < 12) :
    Calls Try.prog 17 #[.slice A b.length c] w (LoadPost b w) := by
  unfold LoadPost
  rw [load_short b h12]
  go_enter Try.func17, Try.ntmps17
  go_wp2_with fail
  go_ret3
  exact ⟨_, rfl, World.ownsRow_nil _ _ _ _, Below.refl _ _⟩
theorem Load_own (v : Value) (b : List UInt8) (base : Nat) (w : World) (h : w.ownsRow base 5 1 v b.length (by8 b)) (hl : b.length ≤ 140737488351232) :
    Calls Try.prog 17 #[v] w (LoadPost b w) := by
  by_cases h12 : b.length < 12
  · obtain ⟨A, c, rfl, _⟩ := own_slice h
    exact Load_short A c b w h12
  · obtain ⟨g, cap, rfl, hg, hgl⟩ := h.form (by omega)
    obtain ⟨A, c, hv, h1, h2⟩ := own_slice h
    injection hv with e1 _ e3
    subst e3
    refine Load_any _ b w ⟨g, 0, cap, rfl, h1, h2, hgl, fun j u hu => ?_⟩ hl
    rw [← add_plain]
    exact h.cells (g := g) rfl j u hu
theorem okf_nil : OKF ⟨#[]⟩ [] := by decide
theorem enc_nil_len : (enc ⟨#[]⟩ []).length = 12 := by simp [enc, encB, headB, num, sum4]
set_option maxRecDepth 100000 in
set_option maxHeartbeats 8000000 in
theorem logFixed_walk (w : World) (v : Value) (xs : List Int) (h : Row .u8 w v xs) (hl : xs.length ≤ 140737488351232) :
    Calls Try.prog 4 #[v] w fun e w' => e = .returned (.bool true) ∧ Below w.heap.size w w' := by
  obtain ⟨A, c, rfl, h1, h2, h3, h4⟩ := h
  have HB8 := Lib.hid (by8_bl xs h3)
  have hbl := bl_len xs
  rw [← by8_bl xs h3] at h4
  generalize bl xs = b at *
  generalize hn : xs.length = n at *
  have HBL := Lib.hid hbl
  have H4 := Lib.hid h4
  have HN := Lib.hid hn
  clear hn h3 hbl
  unfold maxLen at h2
  go_enter Try.func4, Try.ntmps4
  go_wp2_with (at_builtin; refine wpList_copyBig rfl (.tmp 15) _ rfl 5 _ 1 1 Try.underlying27 u8_info rfl (by decide) _ n _ (by8 b) rfl h4 (by8_one b) (by omega) (by unfold maxLen; omega) ?_)
  intro v1 w1 ho1 hb1
  have HX := Lib.hid (Load_own v1 b w.heap.size w1 (by rw [HBL.out]; exact ho1) (by rw [HBL.out]; exact hl))
  clear ho1 h4
  go_wp2_with (go_at_call 17; refine HX.out.mono ?_)
  rintro e w2 ⟨v2, rfl, ho2, hb2⟩
  have HB2 := Lib.hid (bstep hb1 hb2)
  have HO2 := Lib.hid ho2
  have HS := Lib.hid (save_any ⟨#[]⟩ none 0 [] w2 ⟨rfl, fun h => absurd h (Nat.lt_irrefl 0)⟩ (Nat.le_refl _) (by decide) okf_nil)
  clear HX hb1 hb2 ho2
  generalize hLD : load b = L at *
  obtain ⟨A2, c2, rfl, hc1, hc2⟩ := own_slice HO2.out
  go_wp2_with fail
  refine HS.out.mono ?_
  rintro e w3 ⟨v3, rfl, ho3, hb3⟩
  have HX := Lib.hid (Load_own v3 _ _ w3 ho3 (by rw [enc_nil_len]; decide))
  have HB3 := Lib.hid (bstep HB2.out hb3)
  have HO3 := Lib.hid (own_below HO2.out hb3)
  rw [enc_nil_len] at ho3
  obtain ⟨A3, c3, rfl, hc3, hc4⟩ := own_slice ho3
  clear HS ho3 hb3 HB2 HO2
  go_wp2_with fail
  refine HX.out.mono ?_
  rintro e w4 ⟨v4, rfl, ho4, hb4⟩
  rw [load_enc _ _ okf_nil]
  have HB4 := Lib.hid (bstep HB3.out hb4)
  have HO4 := Lib.hid (own_below HO3.out hb4)
  clear ho4 hb4 HX HB3 HO3
  have HLD := Lib.hid hLD
  clear hLD
  have hcases := load_c b
  rw [HLD.out] at hcases
  by_cases h0 : L.c = 0
  · clear hcases
    have hinv := load_inv b (by rw [HLD.out]; exact h0)
    rw [HLD.out] at hinv
    obtain ⟨hok, henc⟩ := hinv
    obtain ⟨s, l, cc⟩ := L
    simp only at h0
    subst h0
    simp only at hok henc HO4 hc1
    have HOK := Lib.hid hok
    have HE := Lib.hid henc
    have HS := Lib.hid (save_any s A2 c2 l w4 (Reads.of_own HO4.out) hc1 hc2 hok)
    clear hok henc
    go_wp2_with fail
    refine HS.out.mono ?_
    rintro e w5 ⟨v5, rfl, ho5, hb5⟩
    rw [← HE.out, HBL.out] at ho5
    have HB5 := Lib.hid (bstep HB4.out hb5)
    obtain ⟨A5, c5, rfl, hc5, hc6⟩ := own_slice ho5
    have HR5 := Lib.hid (Reads.of_own ho5)
    have HR0 := Lib.hid (H4.out.below HB5.out)
    clear HS ho5 hb5 HB4 HO4 HOK HE HLD hc1 hc2 hc3 hc4
    go_wp2_with fail
    go_loopw [13] (fun i wr => ∃ k : Nat, k ≤ n ∧ i = .int .i64 k ∧ Below w5.heap.size w5 wr) (fun i _ => n - (intOf i).toNat)
    case atStart => exact ⟨0, Nat.zero_le _, rfl, Below.refl _ _⟩
    case round =>
      obtain ⟨k, hk, rfl, hbr⟩ := hrel
      by_cases hlt : k < n
      · have hkb : k < b.length := by rw [HBL.out]; exact hlt
        have hbk : (by8 b)[k]? = some (.int .u8 (b[k].toNat : Int)) := by rw [by8, List.getElem?_map, List.getElem?_eq_getElem hkb]; rfl
        obtain ⟨g1, o1, rfl, hg1, hx1⟩ := HR0.out.plain (by omega) (by decide)
        obtain ⟨g2, o2, rfl, hg2, hx2⟩ := HR5.out.plain (by omega) (by decide)
        have x1 : wr.cell? ⟨g1, o1 + k, none⟩ = some (.int .u8 (b[k].toNat : Int)) := (hbr.cell (p := ⟨g1, o1 + k, none⟩) (Nat.lt_of_lt_of_le hg1 HB5.out.size)).trans (hx1 k _ hbk)
        have x2 : wr.cell? ⟨g2, o2 + k, none⟩ = some (.int .u8 (b[k].toNat : Int)) := (hbr.cell (p := ⟨g2, o2 + k, none⟩) hg2).trans (hx2 k _ hbk)
        have HBR := Lib.hid hbr
        have hki : (k : Int) < (n : Int) := by omega
        clear hx1 hx2 hbk hbr
        generalize b[k].toNat = y at *
        go_wp2_with fail
        go_quiet (fail)
        go_wp2_with fail
        go_roundw
        case rel => exact ⟨k + 1, by omega, by go_num, below_drewN HBR.out _⟩
        case measure => simp [intOf]; omega
      · go_wp2_with fail
        go_ret
        exact ⟨rfl, bstep HB5.out hbr⟩
  · have hL : (L = none_ 5 ∨ L = none_ 6 ∨ L = none_ 4) := by
      rcases hcases with h | h | h | h
      · exact absurd h h0
      · exact .inr (.inr h)
      · exact .inl h
      · exact .inr (.inl h)
    clear hcases h0 HLD
    unfold none_ at hL
    rcases hL with rfl | rfl | rfl
    all_goals
      go_wp2_with fail
      go_ret
      exact ⟨rfl, HB4.out⟩
end Go.Proofs.Ytegobmlbldabbaa
