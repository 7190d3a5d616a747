/-
  The law PolyLined, walked: the numbers of the lines of two texts put together with a line end between.
-/
import Derived.Test.YtpjpckhmjonehaaDoorPolL
import Derived.Test.YtpjpckhmjonehaaDoorText
import Derived.Test.YtpjpckhmjonehaaDoorSame
import Derived.Test.YtpjpckhmjonehaaDoorPosO
import Derived.Test.YtpjpckhmjonehaaDoorCopy
namespace Go.Proofs.YtpjpckhmjonehaaDoor
open Go.RowKit
set_option linter.unusedVariables false
set_option linter.unusedSimpArgs false

/-- 'append(s, xs...)' of an operation that is guarded, and wanted. -/
theorem wpList_append_g {P : Program} {w : World} {ops : Array Oper} {Q : Exit → Act → World → Prop} {rest : List Oper} {o : Oper} {a : Act} (hgw : Region.wanted o (yielded ops a.tmps) = true) (s x : Operand) (t : TypeId)
    (ho : o.op = .call { callee := .builtin .append, args := #[s, x], argTypes := #[t, t] })
    (base : Nat) (e : TypeId) (z : Value) (size bytes : Nat) (ht : P.underlying t = some (.slice e)) (hi : (P.info? e).map (fun i => (i.zero, i.size, i.bytes)) = some (some z, size, bytes)) (hzs : z.cells.size = size) (hsz : 0 < size)
    (v : Value) (n : Nat) (xs : List Value) (hs : a.eval s = v) (hown : w.ownsRow base e size v n xs)
    (B : Nat) (A : Option Addr) (m c : Nat) (news : List Value) (hx : a.eval x = .slice A m c) (hr : Reads w B size A m news) (h1 : ∀ u ∈ news, u.oneCell' = true)
    (h63 : n + m ≤ maxLen) (hbytes : (n + m) * bytes ≤ 140737488355328) (hbase : base ≤ w.heap.size)
    (h : ∀ v' w', w'.ownsRow base e size v' (n + m) (xs ++ news) → w.grownBy w' v.ownBlock → wpList P ops Q rest (a.put o.dst v') w') : wpList P ops Q (o :: rest) a w := by
  obtain ⟨i, hi0, hz0, hzz, hzb⟩ := info_parts hi
  refine wpList_step fun K hK => ?_
  simp only [hgw, if_true]
  exact wp_append_any w s x t ho base e i z size bytes ht hi0 hz0 hzz hzb hzs hsz v n xs hs hown B A m c news hx hr h1 h63 hbytes hbase fun v' w' h2 h3 h4 => hK _ _ (h v' w' h2 h3)
theorem lnv_wf (l : List (List UInt8)) : ∀ x ∈ lnv l, (Lit.int .i64 x).wf = true := by
  intro x hx
  obtain ⟨y, _, rfl⟩ := List.mem_map.1 hx
  have := hv_bd y
  simp [Lit.wf, IntKind.min, IntKind.max, IntKind.signed, IntKind.bits]; omega
theorem lnv_len (l : List (List UInt8)) : (lnv l).length = l.length := List.length_map _
theorem spl_le (s : List UInt8) : (spl s).length ≤ s.length + 1 := by
  rw [spl_len]
  have := List.count_le_length (a := (10 : UInt8)) (l := s)
  omega
set_option maxRecDepth 100000 in
set_option maxHeartbeats 8000000 in
theorem polyLined_walk (w : World) (v0 : Value) (xs : List Int) (h0 : Row .i64 w v0 xs) (v1 : Value) (ys : List Int) (h1 : Row .i64 w v1 ys) :
    Calls Tryd.prog 3 #[v0, v1] w fun e w' => e = .returned (.bool true) ∧ Below w.heap.size w w' := by
  have HT0 := Lib.hid (textOf_any v0 xs 100 w h0 (by omega) (by omega))
  have H1 := Lib.hid h1
  clear h0 h1
  go_enter Tryd.func3, Tryd.ntmps3
  go_wp2_with fail
  refine HT0.out.mono ?_
  rintro e w' ⟨a, rfl, ha, rfl⟩
  have hla : a.size ≤ 100 := by
    have h2 : a.data.toList.length = a.size := by simp
    rw [← h2, ha]; simp; omega
  have HT1 := Lib.hid (textOf_any v1 ys 100 w H1.out (by omega) (by omega))
  clear ha HT0
  go_wp2_with fail
  refine HT1.out.mono ?_
  rintro e w' ⟨b, rfl, hb, rfl⟩
  have hlb : b.size ≤ 100 := by
    have h2 : b.data.toList.length = b.size := by simp
    rw [← h2, hb]; simp; omega
  have HL1 := Lib.hid (polyLines_any a w (by omega))
  clear hb HT1 H1
  go_wp2_with fail
  refine HL1.out.mono ?_
  rintro e w1 ⟨vx, rfl, hox, hb1⟩
  have HX1 := Lib.hid (row_of_own (by rw [lnv_len]; exact hox) (lnv_wf (spl a.data.toList)))
  have HB1 := Lib.hid hb1
  have HL2 := Lib.hid (polyLines_any b w1 (by omega))
  clear hox hb1 HL1
  go_wp2_with fail
  refine HL2.out.mono ?_
  rintro e w2 ⟨vy, rfl, hoy, hb2⟩
  have HY2 := Lib.hid (row_of_own (by rw [lnv_len]; exact hoy) (lnv_wf (spl b.data.toList)))
  have HX2 := Lib.hid (HX1.out.later hb2)
  have HB2 := Lib.hid (bstep HB1.out hb2)
  clear hoy hb2 HL2 HX1 HB1
  have hm : IntKind.i64.max = 9223372036854775807 := by decide
  have e1 : (⟨#[10]⟩ : ByteArray).size = 1 := rfl
  have hno : ¬ ((a.size + (⟨#[10]⟩ : ByteArray).size : Nat) : Int) > IntKind.i64.max := by omega
  have hs1 : (a ++ ⟨#[10]⟩ : ByteArray).size = a.size + 1 := by rw [ByteArray.size_append, e1]
  have hno2 : ¬ (((a ++ ⟨#[10]⟩ : ByteArray).size + b.size : Nat) : Int) > IntKind.i64.max := by omega
  have HL3 := Lib.hid (polyLines_any (a ++ ⟨#[10]⟩ ++ b) w2 (by rw [ByteArray.size_append, hs1]; omega))
  have HD : Hid ((a ++ ⟨#[10]⟩ ++ b : ByteArray).data.toList = a.data.toList ++ 10 :: b.data.toList) := Lib.hid (by simp [ByteArray.data_append])
  clear hm e1 hs1
  go_wp2_with fail
  refine HL3.out.mono ?_
  rintro e w3 ⟨vz, rfl, hoz, hb3⟩
  rw [HD.out, spl_app] at hoz
  have HZ3 := Lib.hid (row_of_own (by rw [lnv_len]; exact hoz) (lnv_wf (spl a.data.toList ++ spl b.data.toList)))
  have HX3 := Lib.hid (HX2.out.later hb3)
  have HY3 := Lib.hid (HY2.out.later hb3)
  have HB3 := Lib.hid (bstep HB2.out hb3)
  have HPO := Lib.hid (posOf_any a w3 (by omega))
  have HCN : Hid ((lnsL a.data.toList : Nat) + 1 = (spl a.data.toList).length) := Lib.hid (by rw [spl_len]; rfl)
  have hal := spl_le a.data.toList
  have hbl := spl_le b.data.toList
  have haz : a.data.toList.length = a.size := by simp
  have hbz : b.data.toList.length = b.size := by simp
  rw [haz] at hal
  rw [hbz] at hbl
  clear hoz hb3 HL3 HX2 HY2 HB2 hno hno2 HD haz hbz
  obtain ⟨Ax, cx, rfl, hx1, hx2, hx3, hx4⟩ := id HX3.out
  rw [lnv_len] at hx1 ⊢
  go_wp2_with fail
  refine HPO.out.mono ?_
  rintro e w4 ⟨rfl, hb4⟩
  unfold posv
  have HX4 := Lib.hid (HX3.out.later hb4)
  have HY4 := Lib.hid (HY3.out.later hb4)
  have HZ4 := Lib.hid (HZ3.out.later hb4)
  have HB4 := Lib.hid (bstep HB3.out hb4)
  have hq : (((spl a.data.toList).length : Int) == (lnsL a.data.toList : Int) + 1) = true := by
    have := HCN.out
    rw [beq_iff_eq]; omega
  have hq2 : (lnsL a.data.toList : Int) ≤ 101 := by have := HCN.out; omega
  have hq3 : (0 : Int) ≤ (lnsL a.data.toList : Int) := by omega
  have hfl : ∀ W, (Instr.field 28 (.agg #[.int .i64 (a.data.toList.length : Int), .int .i64 (lnsL a.data.toList : Int), .int .i64 (colL a.data.toList : Int)]) 1).run Tryd.prog W = .ok (.int .i64 (lnsL a.data.toList : Int)) W := fun W => by kernel_rfl
  have haz : (a.data.toList.length : Int) = (a.size : Int) := by simp
  rw [haz] at hfl
  clear HPO HX3 HY3 HZ3 HB3 hb4 HCN haz
  obtain ⟨Ay, cy, rfl, hy1, hy2, hy3, hy4⟩ := id HY4.out
  rw [lnv_len] at hy1 ⊢
  have HXR : Hid (Reads w4 w4.heap.size 1 Ax (spl a.data.toList).length ((lnv (spl a.data.toList)).map (.int .i64))) := Lib.hid (by
    obtain ⟨A9, c9, e9, _, _, _, h9⟩ := HX4.out
    injection e9 with e91 e92 e93
    subst e91; rw [lnv_len] at h9; exact h9)
  have HYR : Hid (Reads w4 w4.heap.size 1 Ay (spl b.data.toList).length ((lnv (spl b.data.toList)).map (.int .i64))) := Lib.hid (by
    rw [lnv_len] at hy4; exact hy4)
  have hlaa : (spl a.data.toList).length ≤ 101 := by omega
  have hlbb : (spl b.data.toList).length ≤ 101 := by omega
  clear hy3 hy4 hx3 hx4 HX4 HY4
  go_wp2_with (at_builtin; first
    | (refine wpList_append_g (by simp [Region.wanted, yielded]) (.const (.slice none 0 0)) (.tmp 55) _ rfl w4.heap.size 3 _ 1 8 Tryd.underlying22 pint_info rfl (by decide) (.slice none 0 0) 0 [] rfl (World.ownsRow_nil _ _ _ _) w4.heap.size Ax (spl a.data.toList).length cx _ rfl HXR.out (ints_one _) (by unfold maxLen; omega) (by omega) (Nat.le_refl _) ?_
       intro v5 w5 h51 h52
       have HB5 := Lib.hid ((Below.refl w4.heap.size w4).grown h52 (Nat.le_refl _) (by simp [Value.ownBlock]))
       have HO5 : Hid (w5.ownsRow w4.heap.size 3 1 v5 (spl a.data.toList).length ((lnv (spl a.data.toList)).map (.int .i64))) := Lib.hid (by rw [Nat.zero_add, List.nil_append] at h51; exact h51)
       have hs5 := HB5.out.size
       clear h51 h52 HXR)
    | (go_loud (refine wpList_append_g (by simp [Region.wanted, yielded]) (.tmp 56) (.tmp 57) _ rfl w4.heap.size 3 _ 1 8 Tryd.underlying22 pint_info rfl (by decide) v5 (spl a.data.toList).length _ rfl HO5.out w4.heap.size Ay (spl b.data.toList).length cy _ rfl (HYR.out.below HB5.out) (ints_one _) (by unfold maxLen; omega) (by omega) hs5 ?_)
       intro v6 w6 h61 h62
       have HB6 := Lib.hid (HB5.out.grown h62 hs5 (fun q hq => (HO5.out.lt q hq).1))
       have HO6 := Lib.hid h61
       clear h61 h62 HYR HO5 HB5))
  have hr6 : Row .i64 w6 v6 (lnv (spl a.data.toList) ++ lnv (spl b.data.toList)) := row_of_own (by
    have h9 := HO6.out
    rw [← List.map_append] at h9
    rw [List.length_append, lnv_len, lnv_len]; exact h9) (fun x hx => by
    rcases List.mem_append.1 hx with h | h
    · exact lnv_wf _ x h
    · exact lnv_wf _ x h)
  have hSI := sameInts_any v6 vz _ _ w6 hr6 (HZ4.out.later HB6.out)
  rw [decide_eq_true (show lnv (spl a.data.toList) ++ lnv (spl b.data.toList) = lnv (spl a.data.toList ++ spl b.data.toList) by unfold lnv; rw [List.map_append])] at hSI
  have HB7 := Lib.hid (bstep HB4.out HB6.out)
  have HSI := Lib.hid hSI
  clear hr6 hSI HZ4 HB4 HB6 HO6
  refine HSI.out.mono ?_
  rintro e w7 ⟨rfl, hb7⟩
  have HB8 := Lib.hid (bstep HB7.out hb7)
  clear hb7 HSI HB7
  go_wp2_with fail
  go_ret
  exact ⟨rfl, HB8.out⟩
end Go.Proofs.YtpjpckhmjonehaaDoor
