/-
  The walk of cursors.Type at cursors that are apart.
-/
import Derived.Test.YthemlhkdgaeogaaTypP
import Derived.Test.YthemlhkdgaeogaaCurF
namespace Go.Proofs.Ythemlhkdgaeogaa
open Go.RowKit Go.Shelf
set_option linter.unusedVariables false
set_option linter.unusedSimpArgs false

def TypePost (s p : ByteArray) (l : List Sp) (w : World) (e : Ending) (w' : World) : Prop := ∃ v, e = .returned (.tuple #[.string (typed s p l), v, .int .i64 0]) ∧ w'.ownsRow w.heap.size 46 2 v l.length (cellsOf spc (outs s p l l.length)) ∧ Below w.heap.size w w'
set_option maxRecDepth 100000 in
set_option maxHeartbeats 4000000 in
theorem type_any (s p : ByteArray) (v : Value) (l : List Sp) (w : World) (base : Nat) (h : w.ownsRow base 46 2 v l.length (cellsOf spc l)) (hl : l.length ≤ 19) (hs : s.size ≤ 100) (hp : p.size ≤ 10) (ha : Apt l) (hu : Upto s.size l) :
    Calls Try.prog 22 #[.string s, v, .string p] w (TypePost s p l w) := by
  have HF := Lib.hid (curFault_any s.size v l w (CRow.of_own spc_len h) (by omega) (by omega) hu)
  have HN := Lib.hid (fun W (hW : Below w.heap.size w W) => norm_any v l W base (own_below h hW) hl (fun c hc => by have := hu c hc; omega))
  have HU := Lib.hid hu
  have HA := Lib.hid ha
  have HTS := Lib.hid (fun k => tsize s p (l.take k) (apt_take l k ha) (fun c hc => hu c (List.mem_of_mem_take hc)))
  have HTA := Lib.hid (fun k => tat s p (l.take k) s.size (fun c hc => chi_le (hu c (List.mem_of_mem_take hc))))
  have HTT := Lib.hid (fun k hk => tfold_take s p l k hk)
  have HOS := Lib.hid (fun k => outs_succ s p l k)
  have HTO : Hid (∀ k (hk : k < l.length), (tfold s p (l.take k)).2 ≤ clo l[k]) := Lib.hid (fun k hk => by
    have h1 := apt_take l (k + 1) ha
    rw [List.take_succ_eq_append_getElem hk] at h1
    exact tat s p _ _ (apt_left h1).2)
  have HTY : Hid (typed s p l = (tfold s p l).1 ++ s.extract (tfold s p l).2 s.size) := Lib.hid rfl
  obtain ⟨A, ca, rfl, hc1, hc2⟩ := own_slice h
  clear h hu ha
  go_enter Try.func22, Try.ntmps22
  go_wp2_with fail
  refine HF.out.mono ?_
  rintro e w1 ⟨rfl, hb1⟩
  have HB := Lib.hid hb1
  clear hb1
  go_wp2_with fail
  refine (HN.out _ HB.out).mono ?_
  rintro e w2 ⟨v2, o, rfl, ho2, hi2, hb2⟩
  obtain rfl : o = l := hi2.self HA.out
  have HO2 := Lib.hid ho2
  have HRD := Lib.hid (CRow.of_own spc_len ho2)
  have HB2 := Lib.hid (bstep HB.out hb2)
  obtain ⟨A2, c2, rfl, hc21, hc22⟩ := own_slice ho2
  clear ho2 hi2 hb2 HN HF
  go_wp2_with fail
  go_loopw [10, 11, 12, 14, 25] (fun vo vm va _ vi wr => ∃ k : Nat, k ≤ o.length ∧ vi = .int .i64 k ∧ vm = .string (tfold s p (o.take k)).1 ∧ va = .int .i64 ((tfold s p (o.take k)).2 : Int) ∧ wr.ownsRow w2.heap.size 46 2 vo k (cellsOf spc (outs s p o k)) ∧ Below w2.heap.size w2 wr) (fun _ _ _ _ vi _ => o.length - (intOf vi).toNat)
  case atStart => exact ⟨0, Nat.zero_le _, rfl, rfl, rfl, World.ownsRow_nil _ _ _ _, Below.refl _ _⟩
  case round =>
    obtain ⟨k, hk, rfl, rfl, rfl, hown, hb⟩ := hrel
    obtain ⟨Ao, co, rfl, ho1, ho2⟩ := own_slice hown
    have hts := HTS.out k
    have hta := HTA.out k
    have hkl : (o.take k).length = k := by rw [List.length_take]; omega
    rw [hkl] at hts
    have hkp : k * p.size ≤ 19 * 10 := Nat.mul_le_mul (by omega) hp
    by_cases hlt : k < o.length
    · have hto := HTO.out k hlt
      have htt := HTT.out k hlt
      have hos := HOS.out k
      obtain ⟨Aq, cq, hvq, _, _, hrd⟩ := HRD.out
      injection hvq with e1 _ e3
      subst e1
      subst e3
      obtain ⟨b, off, rfl, hbb, x0, x1⟩ := CRow.cells2 (hrd.below hb) hlt
      clear hrd
      have hux := HU.out _ (List.getElem_mem hlt)
      have hch := chi_le hux
      have hcc := clo_le o[k]
      have hts2 := HTS.out (k + 1)
      rw [show (o.take (k + 1)).length = k + 1 by rw [List.length_take]; omega] at hts2
      have hta2 := HTA.out (k + 1)
      have hkp2 : (k + 1) * p.size ≤ 19 * 10 := Nat.mul_le_mul (by omega) hp
      rw [htt] at hos hts2 hta2
      have LC := Lib.hid (fun W => Gr.clo_any o[k] W)
      have HC := Lib.hid (fun W => Gr.chi_any o[k] W)
      unfold spv at LC HC
      unfold tstep at hos hts2 hta2 htt
      simp only at hos hts2 hta2
      have HOSK := Lib.hid hos
      have HTT' := Lib.hid htt
      generalize o[k] = c at *
      generalize (tfold s p (o.take k)).1 = m at *
      generalize (tfold s p (o.take k)).2 = at_ at *
      have hin : (m ++ (s.extract at_ (clo c) ++ p)).size ≤ 600 := by omega
      have hsz : (m ++ (s.extract at_ (clo c) ++ p)).size = m.size + ((clo c - at_) + p.size) := by rw [ByteArray.size_append, ByteArray.size_append, ext_size _ _ _ (by omega)]
      have hsz2 : (s.extract at_ (clo c) ++ p).size = (clo c - at_) + p.size := by rw [ByteArray.size_append, ext_size _ _ _ (by omega)]
      have HSZ := Lib.hid hsz
      have hmb : m.size ≤ 600 := by omega
      have hno : ¬ (((m.size + (s.extract at_ (clo c) ++ p).size : Nat) : Int) > IntKind.i64.max) := by rw [hsz2]; show ¬ ((_ : Int) > 9223372036854775807); omega
      have hno2 : ¬ (9223372036854775807 : Int) < (m.size : Int) + ((s.extract at_ (clo c) ++ p).size : Int) := by rw [hsz2]; omega
      have BX := Blk.new wr 46 #[.int .i64 (c.lo : Int), .int .i64 (c.hi : Int)]
      have hal := (Below.refl wr.heap.size wr).alloc (Nat.le_refl _) (.cells #[.int .i64 (c.lo : Int), .int .i64 (c.hi : Int)] 46)
      have HOW := Lib.hid (own_below hown hal)
      have HBW := Lib.hid (bstep hb hal)
      generalize clo c = lo at *
      generalize chi c = hi' at *
      have g0 : (0 : Int) ≤ (at_ : Int) := by omega
      have g1 : (at_ : Int) ≤ (lo : Int) := by omega
      have g2 : (lo : Int) ≤ (s.size : Int) := by omega
      have p0 : (wr.alloc (.cells #[.int .i64 (c.lo : Int), .int .i64 (c.hi : Int)] 46)).cell? ⟨wr.heap.size, 0, none⟩ = some (.int .i64 (c.lo : Int)) := BX.cell 0
      have p1 : (wr.alloc (.cells #[.int .i64 (c.lo : Int), .int .i64 (c.hi : Int)] 46)).cell? ⟨wr.heap.size, 1, none⟩ = some (.int .i64 (c.hi : Int)) := BX.cell 1
      clear hown hb hal hos htt hts hts2 hta hta2 hsz hkl hsz2
      go_wp2_with fail
      refine (LC.out _).mono ?_
      rintro e w4 ⟨rfl, hg4⟩
      have BX4 := BX.below hg4.below BX.lt
      have HO4 := Lib.hid (own_below HOW.out hg4.below)
      have HB4 := Lib.hid (bstep HBW.out hg4.below)
      clear p0 p1 hg4 BX HOW HBW LC
      have p0 : w4.cell? ⟨wr.heap.size, 0, none⟩ = some (.int .i64 (c.lo : Int)) := BX4.cell 0
      have p1 : w4.cell? ⟨wr.heap.size, 1, none⟩ = some (.int .i64 (c.hi : Int)) := BX4.cell 1
      go_wp2_with fail
      generalize m ++ (s.extract at_ lo ++ p) = m2 at *
      refine (HC.out _).mono ?_
      rintro e w5 ⟨rfl, hg5⟩
      have HO5 := Lib.hid (own_below HO4.out hg5.below)
      have HB5 := Lib.hid (bstep HB4.out hg5.below)
      have hgt : ¬ (600 : Int) < (m2.size : Int) := by omega
      clear p0 p1 hg5 BX4 HO4 HB4 HC g0 g1 g2 x0 x1
      go_wp2_with (at_builtin; go_loud (refine wpList_appN rfl (.tmp 43) (.tmp 49) _ rfl w2.heap.size 46 _ 2 16 Try.underlying43 cur_info rfl (by decide) (.slice Ao k co) k _ rfl HO5.out (spc ⟨m2.size, m2.size⟩) rfl _ rfl (by simp) rfl (spc_one _) (by omega) (by omega) HB5.out.size ?_; intro v8 w8 ho8 hB8 hg8; have HO8 := Lib.hid ho8; have HB8 := Lib.hid (hB8 _ (Nat.le_refl _) _ HB5.out); clear ho8 hB8 hg8))
      refine ⟨⟨k + 1, by omega, by go_num, by rw [HTT'.out], by rw [HTT'.out], ?_, HB8.out⟩, by simp [intOf]; omega⟩
      rw [HOSK.out, cellsOf_snoc]
      exact HO8.out
    · obtain rfl : k = o.length := by omega
      rw [List.take_length] at hts hta
      have HOW := Lib.hid hown
      have HBW := Lib.hid (HB2.out.trans (hb.mono HB2.out.size))
      rw [List.take_length]
      have hty := HTY.out
      have hsz : (typed s p o).size = (tfold s p o).1.size + (s.size - (tfold s p o).2) := by rw [hty, ByteArray.size_append, ext_size _ _ _ (Nat.le_refl _)]
      generalize (tfold s p o).1 = m at *
      generalize (tfold s p o).2 = at_ at *
      have HT := Lib.hid hty
      have hin : ¬ (600 : Int) < ((typed s p o).size : Int) := by omega
      have hin2 : (m ++ s.extract at_ s.size).size ≤ 600 := by rw [← hty]; omega
      have g0 : (0 : Int) ≤ (at_ : Int) := by omega
      have g1 : (at_ : Int) ≤ (s.size : Int) := by omega
      rw [hty] at hin
      have hmb : m.size ≤ 600 := by omega
      have hez : (s.extract at_ s.size).size = s.size - at_ := ext_size _ _ _ (Nat.le_refl _)
      have hno : ¬ (((m.size + (s.extract at_ s.size).size : Nat) : Int) > IntKind.i64.max) := by rw [hez]; show ¬ ((_ : Int) > 9223372036854775807); omega
      have hno2 : ¬ (9223372036854775807 : Int) < (m.size : Int) + ((s.extract at_ s.size).size : Int) := by rw [hez]; omega
      have hin3 : ¬ (600 : Int) < (m.size : Int) + ((s.size - at_ : Nat) : Int) := by omega
      clear hown hb hty hsz hts hta hkl hez
      go_wp2_with fail
      rw [← HT.out]
      refine bodyPost_ret (v := .tuple #[.string (typed s p o), .slice Ao o.length co, .int .i64 0]) (by simp [results, Try.results22, go_sem]) rfl ⟨_, rfl, own_mono HOW.out HB2.out.size, HBW.out⟩
end Go.Proofs.Ythemlhkdgaeogaa
