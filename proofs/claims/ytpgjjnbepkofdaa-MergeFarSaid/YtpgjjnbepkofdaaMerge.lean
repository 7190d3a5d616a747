/-
  The walk of merge.Merge.
-/
import Derived.Test.YtpgjjnbepkofdaaMrgR
import Derived.Test.YtpgjjnbepkofdaaMrgC
import Derived.Test.YtpgjjnbepkofdaaMrgS
namespace Go.Proofs.Ytpgjjnbepkofdaa
open Go.RowKit
set_option linter.unusedVariables false
set_option linter.unusedSimpArgs false

def markA : ByteArray := ⟨#[60, 60, 60, 60, 60, 60, 60]⟩
def markB : ByteArray := ⟨#[61, 61, 61, 61, 61, 61, 61]⟩
def markC : ByteArray := ⟨#[62, 62, 62, 62, 62, 62, 62]⟩
/-- A clash, as the lines show it. -/
def marksM (u v : List ByteArray) : List ByteArray := ((([markA] ++ u) ++ [markB]) ++ v) ++ [markC]
def MergePost (R : List ByteArray × Nat) (w : World) (e : Ending) (w' : World) : Prop :=
  ∃ v, e = .returned (.tuple #[v, .int .i64 (R.2 : Int), .int .i64 0]) ∧ SRow w' v R.1 ∧ Below w.heap.size w w'
/-- What is known of a side's hunks. -/
structure HsOk (n : Nat) (l : List HV) : Prop where
  ch : Ch (l.map HV.h)
  hi : ∀ x ∈ l, x.h.lo ≤ n ∧ x.h.hi ≤ n
  ls : ∀ x ∈ l, x.h.ls.length ≤ 200
theorem HsOk.of (base a : List ByteArray) (l : List HV) (hl : l.map HV.h = hunksOf base a) (ha : a.length ≤ 200) : HsOk base.length l := by
  obtain ⟨h1, h2, h3⟩ := hunks_ok base a
  rw [← hl] at h1 h2 h3
  refine ⟨h1, fun x hx => ?_, fun x hx => ?_⟩
  · have := h3 x.h (List.mem_map_of_mem hx)
    have := h1.2 x.h (List.mem_map_of_mem hx)
    omega
  · rw [app_mk] at h2
    have := lines_le base base.length (l.map HV.h) 0 x.h (List.mem_map_of_mem hx)
    rw [h2] at this
    omega
theorem HsOk.drop {n : Nat} {l : List HV} (h : HsOk n l) (k : Nat) : HsOk n (l.drop k) :=
  ⟨by rw [List.map_drop]; exact ch_drop h.ch k, fun x hx => h.hi x (List.mem_of_mem_drop hx), fun x hx => h.ls x (List.mem_of_mem_drop hx)⟩
def mergeR (base a b : List ByteArray) : List ByteArray × Nat := mg marksM base ((hunksOf base a).length + (hunksOf base b).length) (hunksOf base a) (hunksOf base b) 0
theorem part_reads2 {w W : World} {A : Option Addr} {n c : Nat} {ss : List ByteArray} (h : SRow w (.slice A n c) ss) (hb : Below w.heap.size w W) (b o : Nat) (hA : A = some ⟨b, o, none⟩) (lo : Nat) (hlo : lo < ss.length) :
    Reads W w.heap.size 1 (some ⟨b, o + lo, none⟩) (ss.length - lo) ((ss.drop lo).map .string) := by
  have := part_reads h hb b o hA lo ss.length hlo (Nat.le_refl _)
  rwa [List.take_length] at this
theorem part_none2 {w : World} (B : Nat) (A : Option Addr) (ss : List ByteArray) (lo : Nat) (h : ss.length ≤ lo) : Reads w B 1 A 0 ((ss.drop lo).map .string) := by
  rw [List.drop_eq_nil_of_le h]
  exact ⟨rfl, fun h => absurd h (by omega)⟩
set_option maxRecDepth 100000 in
set_option maxHeartbeats 8000000 in
theorem merge_any (vn va vb : Value) (base a b : List ByteArray) (w : World) (hn : SRow w vn base) (ha : SRow w va a) (hb : SRow w vb b)
    (hln : base.length ≤ 80) (hla : a.length ≤ 80) (hlb : b.length ≤ 80) (hsn : ∀ s ∈ base, s.size ≤ 600) (hsa : ∀ s ∈ a, s.size ≤ 600) (hsb : ∀ s ∈ b, s.size ≤ 600) :
    Calls Try.prog 34 #[vn, va, vb] w (MergePost (mergeR base a b) w) := by
  have i0 : ∀ w, (Instr.index 115 (.agg #[vn, va, vb]) (.int .i64 0)).run Try.prog w = .ok vn w := fun _ => by kernel_rfl
  have i1 : ∀ w, (Instr.index 115 (.agg #[vn, va, vb]) (.int .i64 1)).run Try.prog w = .ok va w := fun _ => by kernel_rfl
  have i2 : ∀ w, (Instr.index 115 (.agg #[vn, va, vb]) (.int .i64 2)).run Try.prog w = .ok vb w := fun _ => by kernel_rfl
  obtain ⟨An, cn, rfl, hcn, hcnm, _⟩ := id hn
  obtain ⟨Aa, ca, rfl, hca, hcam, _⟩ := id ha
  obtain ⟨Ab, cb, rfl, hcb, hcbm, _⟩ := id hb
  have HN := Lib.hid hn
  have HA := Lib.hid ha
  have HB := Lib.hid hb
  have HSN := Lib.hid hsn
  have HSA := Lib.hid hsa
  have HSB := Lib.hid hsb
  have CN := Lib.hid (fun w' (h : SRow w' (.slice An base.length cn) base) => merge_contains (.slice An base.length cn) base w' h hsn)
  have CA := Lib.hid (fun w' (h : SRow w' (.slice Aa a.length ca) a) => merge_contains (.slice Aa a.length ca) a w' h hsa)
  have CB := Lib.hid (fun w' (h : SRow w' (.slice Ab b.length cb) b) => merge_contains (.slice Ab b.length cb) b w' h hsb)
  have t0 : ¬ (80 : Int) < (base.length : Int) := by omega
  have t1 : ¬ (80 : Int) < (a.length : Int) := by omega
  have t2 : ¬ (80 : Int) < (b.length : Int) := by omega
  have s0 : decide ((80 : Int) < (base.length : Int)) = false := decide_eq_false t0
  have s1 : decide ((80 : Int) < (a.length : Int)) = false := decide_eq_false t1
  have s2 : decide ((80 : Int) < (b.length : Int)) = false := decide_eq_false t2
  clear hn ha hb hsn hsa hsb
  go_enter Try.func34, Try.ntmps34
  go_wp2_with fail
  go_loopw [6, 7, 8, 25] (fun v6 v7 v8 vk wr => ∃ q : Nat, v6 = .slice none 0 0 ∧ v7 = .int .i64 (0 : Int) ∧ v8 = .int .i64 (0 : Int) ∧ (vk = .int .i64 (0 : Int) ∨ vk = .int .i64 (1 : Int) ∨ vk = .int .i64 (2 : Int) ∨ vk = .int .i64 (3 : Int)) ∧ wr = w.drewN q) (fun _ _ _ vk _ => 3 - (intOf vk).toNat)
  case atStart => exact ⟨0, rfl, rfl, rfl, .inl rfl, rfl⟩
  case round =>
    obtain ⟨q, rfl, rfl, rfl, h, rfl⟩ := hrel
    rcases h with rfl | rfl | rfl | rfl
    · go_wp2_with fail
      refine (CN.out (w.drewN q) HN.out).mono ?_
      rintro e w' ⟨rfl, rfl⟩
      go_wp2_with fail
      exact ⟨⟨q, rfl, rfl, rfl, .inr (.inl rfl), rfl⟩, by simp [intOf]⟩
    · go_wp2_with fail
      refine (CA.out (w.drewN q) HA.out).mono ?_
      rintro e w' ⟨rfl, rfl⟩
      go_wp2_with fail
      exact ⟨⟨q, rfl, rfl, rfl, .inr (.inr (.inl rfl)), rfl⟩, by simp [intOf]⟩
    · go_wp2_with fail
      refine (CB.out (w.drewN q) HB.out).mono ?_
      rintro e w' ⟨rfl, rfl⟩
      go_wp2_with fail
      exact ⟨⟨q, rfl, rfl, rfl, .inr (.inr (.inr rfl)), rfl⟩, by simp [intOf]⟩
    · clear CN CA CB i0 i1 i2 t0 t1 t2 s0 s1 s2
      have HN1 : Hid (SRow (w.drewN q) (.slice An base.length cn) base) := HN
      have HA1 : Hid (SRow (w.drewN q) (.slice Aa a.length ca) a) := HA
      have HB1 : Hid (SRow (w.drewN q) (.slice Ab b.length cb) b) := HB
      have BE0 : Below w.heap.size w (w.drewN q) := ⟨rfl, rfl, rfl, Nat.le_refl _, fun _ _ => rfl⟩
      have hz0w : w.heap.size = (w.drewN q).heap.size := rfl
      clear HA HB
      generalize w.drewN q = W0 at *
      go_wp2_with fail
      refine (hunks_any _ _ base a W0 HN1.out HA1.out (by omega) (by omega)).mono ?_
      rintro e w1 ⟨v1, l1, rfl, hl1, ho1, hr1, hn1, hb1⟩
      obtain ⟨A1, c1, rfl, h11, h12⟩ := own_slice ho1
      have HN2 := Lib.hid ((HN1.out.later hb1).later ((Below.refl _ _).alloc (Nat.le_refl _) (.cells #[.slice A1 l1.length c1] 121)))
      have HB2 := Lib.hid ((HB1.out.later hb1).later ((Below.refl _ _).alloc (Nat.le_refl _) (.cells #[.slice A1 l1.length c1] 121)))
      have BLA := Blk.new w1 121 #[.slice A1 l1.length c1]
      have OA := Lib.hid ((OffRow.of_own ho1).alloc (.cells #[.slice A1 l1.length c1] 121))
      have LA := Lib.hid (fun x hx => (hr1 x hx).alloc (.cells #[.slice A1 l1.length c1] 121))
      clear hr1 ho1
      have BE1 : Below w.heap.size w (w1.alloc (.cells #[.slice A1 l1.length c1] 121)) := BE0.trans ((hb1.mono (by omega)).trans ((Below.refl _ _).alloc (by have := hb1.size; omega) _))
      have hga : w.heap.size ≤ w1.heap.size := by have := hb1.size; omega
      go_wp2_with fail
      refine (hunks_any _ _ base b _ HN2.out HB2.out (by omega) (by omega)).mono ?_
      rintro e w2 ⟨v2, l2, rfl, hl2, ho2, hr2, hn2, hb2⟩
      obtain ⟨A2, c2, rfl, h21, h22⟩ := own_slice ho2
      have hsz1 : w1.heap.size < (w1.alloc (.cells #[.slice A1 l1.length c1] 121)).heap.size := BLA.lt
      have SA : Side (w2.alloc (.cells #[.slice A2 l2.length c2] 121)) w.heap.size (w2.alloc (.cells #[.slice A2 l2.length c2] 121)).heap.size w1.heap.size l1 (.slice A1 l1.length c1) :=
        ⟨(BLA.below hb2 hsz1).alloc _, off_low ((OA.out.below hb2).alloc _) (by omega), fun q e => (((OA.out.below hb2).alloc _).lt q e).2⟩
      have SB : Side (w2.alloc (.cells #[.slice A2 l2.length c2] 121)) w.heap.size (w2.alloc (.cells #[.slice A2 l2.length c2] 121)).heap.size w2.heap.size l2 (.slice A2 l2.length c2) :=
        ⟨Blk.new w2 _ _, off_low ((OffRow.of_own ho2).alloc _) (by omega), fun q e => (((OffRow.of_own ho2).alloc (.cells #[.slice A2 l2.length c2] 121)).lt q e).2⟩
      have LL : LinesIn (w2.alloc (.cells #[.slice A2 l2.length c2] 121)) w.heap.size (l1 ++ l2) := fun x hx => by
        rcases List.mem_append.1 hx with hx | hx
        · exact off_low (((LA.out x hx).below hb2).alloc _) (by omega)
        · exact off_low ((hr2 x hx).alloc _) (by omega)
      have BE2 : Below w.heap.size w (w2.alloc (.cells #[.slice A2 l2.length c2] 121)) := BE1.trans ((hb2.mono (by omega)).trans ((Below.refl _ _).alloc (by have := hb2.size; omega) _))
      have hgb : w1.heap.size < w2.heap.size := by have := hb2.size; omega
      have HLOW := Lib.hid (fun x (hx : x ∈ l1 ++ l2) q e => ((LL x hx).lt q e).2)
      have hzw := BE2.size
      have HN3 := Lib.hid ((HN2.out.later hb2).later ((Below.refl _ _).alloc (Nat.le_refl _) (.cells #[.slice A2 l2.length c2] 121)))
      have HSA := Lib.hid SA
      have HSB := Lib.hid SB
      have HLL := Lib.hid LL
      clear hr2 ho2 SA SB LL OA LA HN2 HB2 HN1 HA1 HB1 BLA
      go_wp2_with fail
      have OK1 := Lib.hid (HsOk.of base a l1 hl1 (by omega))
      have OK2 := Lib.hid (HsOk.of base b l2 hl2 (by omega))
      have HR : Hid (mergeR base a b = mg marksM base (l1.length + l2.length) (l1.map HV.h) (l2.map HV.h) 0) := Lib.hid (by unfold mergeR; rw [← hl1, ← hl2, List.length_map, List.length_map])
      clear hl1 hl2 hb1 hb2 hsz1 BE1 BE0 hz0w
      generalize w2.alloc (.cells #[.slice A2 l2.length c2] 121) = W2 at *
      generalize w1.heap.size = ga at *
      generalize w2.heap.size = gb at *
      generalize mergeR base a b = R at *
      go_loopw [6, 7, 14] (fun vo vc vt W => ∃ (la lb : List HV) (va vb : Value) (out : List ByteArray) (c at_ f : Nat), la.length + lb.length ≤ f ∧ la.length ≤ 400 ∧ lb.length ≤ 400 ∧ (∀ x ∈ la, x ∈ l1 ++ l2) ∧ (∀ x ∈ lb, x ∈ l1 ++ l2) ∧ HsOk base.length la ∧ HsOk base.length lb ∧
        (∀ x ∈ la, at_ ≤ x.h.lo) ∧ (∀ x ∈ lb, at_ ≤ x.h.lo) ∧ at_ ≤ base.length ∧ vc = .int .i64 (c : Int) ∧ vt = .int .i64 (at_ : Int) ∧ R = (out ++ (mg marksM base f (la.map HV.h) (lb.map HV.h) at_).1, c + (mg marksM base f (la.map HV.h) (lb.map HV.h) at_).2) ∧
        out.length + (la.length + lb.length) * 250000 ≤ 250000000 ∧ c + (la.length + lb.length) ≤ 1000 ∧
        W.ownsRow W2.heap.size 9 1 vo out.length (out.map .string) ∧ W2.heap.size ≤ W.heap.size ∧ Side W w.heap.size W.heap.size ga la va ∧ Side W w.heap.size W.heap.size gb lb vb ∧ LinesIn W w.heap.size (l1 ++ l2) ∧ Below w.heap.size w W) (fun _ _ _ W => lenV ((W.cell? ⟨ga, 0, none⟩).getD undef) + lenV ((W.cell? ⟨gb, 0, none⟩).getD undef))
      case atStart => exact ⟨l1, l2, _, _, [], 0, 0, l1.length + l2.length, Nat.le_refl _, hn1, hn2, fun x hx => List.mem_append.2 (.inl hx), fun x hx => List.mem_append.2 (.inr hx), OK1.out, OK2.out, fun x _ => Nat.zero_le _, fun x _ => Nat.zero_le _, Nat.zero_le _, rfl, rfl, by rw [HR.out]; simp, by simp; omega, by omega, World.ownsRow_nil _ _ _ _, Nat.le_refl _, HSA.out, HSB.out, HLL.out, BE2⟩
      case round =>
        clear HR OK1 OK2 HSA HSB HLL BE2 HN3
        obtain ⟨la, lb, va, vb, out, c, at_, f, hf, hla4, hlb4, hma, hmb, oka, okb, hata, hatb, hat, rfl, rfl, hR, hol, hc, ow, hzr, sa, sb, ll, be⟩ := hrel
        obtain ⟨Al, cl, rfl, hl3, hl4⟩ := off_slice sa.row
        obtain ⟨Am, cm, rfl, hm3, hm4⟩ := off_slice sb.row
        obtain ⟨Ao, co, rfl, ho3, ho4⟩ := own_slice ow
        unfold maxLen at hl4 hm4 ho4
        have b0 : wr.cell? ⟨ga, 0, none⟩ = some (.slice Al la.length cl) := sa.blk.cell 0
        have b1 : wr.cell? ⟨gb, 0, none⟩ = some (.slice Am lb.length cm) := sb.blk.cell 0
        have HMA := Lib.hid hma
        have HMB := Lib.hid hmb
        have OKA := Lib.hid oka
        have OKB := Lib.hid okb
        have HATA := Lib.hid hata
        have HATB := Lib.hid hatb
        have HR := Lib.hid hR
        have HOW := Lib.hid ow
        have HSA := Lib.hid sa
        have HSB := Lib.hid sb
        have HLL := Lib.hid ll
        have HBE := Lib.hid be
        clear hma hmb oka okb hata hatb hR ow sa sb ll be
        rcases Nat.eq_zero_or_pos (la.length + lb.length) with hz | hz
        · have t1 : decide ((0 : Int) < (la.length : Int) + (lb.length : Int)) = false := decide_eq_false (by omega)
          obtain rfl : la = [] := List.eq_nil_of_length_eq_zero (by omega)
          obtain rfl : lb = [] := List.eq_nil_of_length_eq_zero (by omega)
          have hR := HR.out
          rw [List.map_nil, mg_end] at hR
          have HR2 := Lib.hid hR
          clear hR HR
          simp only [List.length_nil] at *
          obtain ⟨iS, hi_, hs0, hs1, hs2⟩ := info_parts string_info
          go_wp2_with fail
          go_quiet (fail)
          have q1 : (at_ : Int) ≤ (base.length : Int) := by omega
          rcases Nat.lt_or_ge at_ base.length with hne | hne
          · obtain ⟨bn, on, rfl, hbn, _⟩ := Row.srow_plain HN.out (by omega)
            have hcl : ¬ cn = at_ := by omega
            have hcl2 : ¬ cn - at_ = 0 := by omega
            have n0 : out.length ≤ 250000000 := by omega
            have n1b : (base.length - at_) ≤ 80 := by omega
            have n1a : out.length + (base.length - at_) ≤ 250000080 := Nat.add_le_add n0 n1b
            have n1 : out.length + (base.length - at_) ≤ maxLen := Nat.le_trans n1a (Nat.le_of_ble_eq_true (by kernel_rfl))
            have HBEq := Lib.hid (below_drewN HBE.out nq)
            have n2 : (out.length + (base.length - at_)) * 16 ≤ 140737488355328 := Nat.le_trans (Nat.mul_le_mul_right 16 n1a) (by decide)
            go_wp2_with (at_builtin; refine wpList_append_any _ rfl (.tmp 118) (.tmp 121) _ rfl W2.heap.size 9 iS _ 1 16 Try.underlying24 hi_ hs0 hs1 hs2 rfl (by decide) (.slice Ao out.length co) out.length (out.map .string) rfl HOW.out w.heap.size _ (base.length - at_) _ ((base.drop at_).map .string) rfl (part_reads2 HN.out HBEq.out bn on rfl at_ hne) (one_strings _) n1 n2 hzr ?_)
            intro v1 w3 h31 h32 h33
            have hB3 := HBEq.out.grown h32 HBEq.out.size (fun q hq => Nat.le_trans hzw (HOW.out.lt q hq).1)
            try rw [← List.map_drop] at h31
            rw [← List.map_append] at h31
            have hl3 : (out ++ base.drop at_).length = out.length + (base.length - at_) := by rw [List.length_append, List.length_drop]; try omega
            try rw [Nat.add_zero] at hl3
            rw [← hl3] at h31
            clear h33 h32
            go_wp2_with fail
            go_ret3
            exact ⟨v1, by rw [HR2.out]; rfl, by rw [HR2.out]; exact SRow.of_off (OffRow.of_own (by simpa using h31)), hB3⟩
          · have hzz : base.length - at_ = 0 := by omega
            by_cases hcl : cn = at_
            · have n0 : out.length ≤ 250000000 := by omega
              have n1b : 0 ≤ 80 := by omega
              have n1a : out.length + 0 ≤ 250000080 := Nat.add_le_add n0 n1b
              have n1 : out.length + 0 ≤ maxLen := Nat.le_trans n1a (Nat.le_of_ble_eq_true (by kernel_rfl))
              have HBEq := Lib.hid (below_drewN HBE.out nq)
              have n2 : (out.length + 0) * 16 ≤ 140737488355328 := Nat.le_trans (Nat.mul_le_mul_right 16 n1a) (by decide)
              go_wp2_with (at_builtin; refine wpList_append_any _ rfl (.tmp 118) (.tmp 121) _ rfl W2.heap.size 9 iS _ 1 16 Try.underlying24 hi_ hs0 hs1 hs2 rfl (by decide) (.slice Ao out.length co) out.length (out.map .string) rfl HOW.out 0 _ 0 _ ((base.drop at_).map .string) rfl (part_none2 0 _ base at_ hne) (one_strings _) n1 n2 hzr ?_)
              intro v1 w3 h31 h32 h33
              have hB3 := HBEq.out.grown h32 HBEq.out.size (fun q hq => Nat.le_trans hzw (HOW.out.lt q hq).1)
              try rw [← List.map_drop] at h31
              rw [← List.map_append] at h31
              have hl3 : (out ++ base.drop at_).length = out.length + 0 := by rw [List.length_append, List.length_drop]; try omega
              try rw [Nat.add_zero] at hl3
              rw [← hl3] at h31
              clear h33 h32
              go_wp2_with fail
              go_ret3
              exact ⟨v1, by rw [HR2.out]; rfl, by rw [HR2.out]; exact SRow.of_off (OffRow.of_own (by simpa using h31)), hB3⟩
            · have hcl2 : ¬ cn - at_ = 0 := by omega
              have n0 : out.length ≤ 250000000 := by omega
              have n1b : 0 ≤ 80 := by omega
              have n1a : out.length + 0 ≤ 250000080 := Nat.add_le_add n0 n1b
              have n1 : out.length + 0 ≤ maxLen := Nat.le_trans n1a (Nat.le_of_ble_eq_true (by kernel_rfl))
              have HBEq := Lib.hid (below_drewN HBE.out nq)
              have n2 : (out.length + 0) * 16 ≤ 140737488355328 := Nat.le_trans (Nat.mul_le_mul_right 16 n1a) (by decide)
              go_wp2_with (at_builtin; refine wpList_append_any _ rfl (.tmp 118) (.tmp 121) _ rfl W2.heap.size 9 iS _ 1 16 Try.underlying24 hi_ hs0 hs1 hs2 rfl (by decide) (.slice Ao out.length co) out.length (out.map .string) rfl HOW.out 0 _ 0 _ ((base.drop at_).map .string) rfl (part_none2 0 _ base at_ hne) (one_strings _) n1 n2 hzr ?_)
              intro v1 w3 h31 h32 h33
              have hB3 := HBEq.out.grown h32 HBEq.out.size (fun q hq => Nat.le_trans hzw (HOW.out.lt q hq).1)
              try rw [← List.map_drop] at h31
              rw [← List.map_append] at h31
              have hl3 : (out ++ base.drop at_).length = out.length + 0 := by rw [List.length_append, List.length_drop]; try omega
              try rw [Nat.add_zero] at hl3
              rw [← hl3] at h31
              clear h33 h32
              go_wp2_with fail
              go_ret3
              exact ⟨v1, by rw [HR2.out]; rfl, by rw [HR2.out]; exact SRow.of_off (OffRow.of_own (by simpa using h31)), hB3⟩
        · have t1 : (0 : Int) < (la.length : Int) + (lb.length : Int) := by omega
          obtain ⟨iS, hi_, hs0, hs1, hs2⟩ := info_parts string_info
          go_wp2_with fail
          go_quiet (fail)
          have HBEq := Lib.hid (below_drewN HBE.out nq)
          have HOWq : Hid ((wr.drewN nq).ownsRow W2.heap.size 9 1 (.slice Ao out.length co) out.length (out.map .string)) := HOW
          have HSAq := Lib.hid (HSA.out.drewN nq)
          have HSBq := Lib.hid (HSB.out.drewN nq)
          have HLLq : Hid (LinesIn (wr.drewN nq) w.heap.size (l1 ++ l2)) := HLL
          have RO := Lib.hid (round_ok base.length (la.map HV.h) (lb.map HV.h) OKA.out.ch OKB.out.ch (fun h hh => by obtain ⟨x, hx, rfl⟩ := List.mem_map.1 hh; exact (OKA.out.hi x hx).2) (fun h hh => by obtain ⟨x, hx, rfl⟩ := List.mem_map.1 hh; exact (OKB.out.hi x hx).2) (by rw [List.length_map, List.length_map]; exact hz))
          have hc01 := And.intro b0 b1
          have HC0 := Lib.hid hc01
          clear HBE HOW HSA HSB HLL b0 b1 hc01
          rw [List.length_map, List.length_map] at RO
          have ON1 : ∀ x ∈ l1 ++ l2, x.v.oneCell' = true := fun x hx => by
            obtain ⟨A, c, e, _⟩ := off_slice (HLLq.out x hx)
            rw [e]; rfl
          have PA := Lib.hid (part_any w.heap.size ga gb _ _ (l1 ++ l2) la lb (wr.drewN nq) HSAq.out HSBq.out HLLq.out (by omega) hga (by omega) hla4 hlb4 hz (fun x hx => ON1 x (HMA.out x hx)) (fun x hx => ON1 x (HMB.out x hx))
            (fun x hx => by have := OKA.out.hi x hx; omega) (fun x hx => by have := OKB.out.hi x hx; omega))
          clear ON1
          obtain ⟨P, hP⟩ : ∃ P, partN (la.length + lb.length + 1) (la.map HV.h) (lb.map HV.h) (fst (la.map HV.h) (lb.map HV.h)) = P := ⟨_, rfl⟩
          obtain ⟨lo, hlo⟩ : ∃ lo, fst (la.map HV.h) (lb.map HV.h) = lo := ⟨_, rfl⟩
          have HP := Lib.hid hP
          have HLO := Lib.hid hlo
          rw [hP, hlo] at PA
          rw [hP, hlo] at RO
          clear hP hlo
          go_wp2_with fail
          refine PA.out.mono ?_
          rintro e w3 ⟨vx, vy, va3, vb3, rfl, hx3, hy3, sa3, sb3, ll3, be3, kp3⟩
          obtain ⟨Ax, cx, rfl, hx4, hx5⟩ := own_slice hx3
          obtain ⟨Ay, cy, rfl, hy4, hy5⟩ := own_slice hy3
          have OW3 := own_kp HOWq.out HSAq.out.blk HSBq.out.blk (by decide) kp3
          have MS : Hid (MSt w w3 W2.heap.size ga gb (l1 ++ l2) (la.drop P.1) (lb.drop P.2.1) (la.take P.1) (lb.take P.2.1) va3 vb3 _ _ _ out) := Lib.hid ⟨OW3, ⟨_, hx3⟩, ⟨_, hy3⟩, sa3, sb3, ll3, HLOW.out, HBEq.out.trans be3, Nat.le_trans hzr be3.size, hzw⟩
          clear hx3 hy3 sa3 sb3 ll3 be3 kp3 OW3
          generalize hnx : (la.take P.1).length = nx at *
          generalize hny : (lb.take P.2.1).length = ny at *
          have hlat : at_ ≤ lo := by
            have h1 := HLO.out
            rw [← h1]
            rcases Nat.eq_zero_or_pos la.length with z | z
            · obtain rfl : la = [] := List.eq_nil_of_length_eq_zero z
              rcases lb with _ | ⟨y, t⟩
              · simp at hz
              · exact HATB.out y (by simp)
            · rcases la with _ | ⟨x, t⟩
              · simp at z
              · rcases lb with _ | ⟨y, t'⟩
                · exact HATA.out x (by simp)
                · exact Nat.le_min.2 ⟨HATA.out x (by simp), HATB.out y (by simp)⟩
          have hloH := RO.out.ln
          have hHn := RO.out.hn
          clear PA HBEq HOWq HSAq HSBq HLLq
          obtain ⟨A71, c71, hsl, hrd⟩ := slice_part HN.out MS.out.be hcn at_ lo hlat (by omega)
          have HRD := Lib.hid hrd
          clear hrd
          have n0 : out.length ≤ 250000000 := by omega
          have n1b : lo - at_ ≤ 80 := by omega
          have n1a : out.length + (lo - at_) ≤ 250000080 := Nat.add_le_add n0 n1b
          have n1 : out.length + (lo - at_) ≤ maxLen := Nat.le_trans n1a (Nat.le_of_ble_eq_true (by kernel_rfl))
          have n2 : (out.length + (lo - at_)) * 16 ≤ 140737488355328 := Nat.le_trans (Nat.mul_le_mul_right 16 n1a) (by decide)
          go_wp2_with (at_builtin; refine wpList_append_any _ rfl (.tmp 67) (.tmp 71) _ rfl W2.heap.size 9 iS _ 1 16 Try.underlying24 hi_ hs0 hs1 hs2 rfl (by decide) (.slice Ao out.length co) out.length (out.map .string) rfl MS.out.ow w.heap.size _ (lo - at_) _ (((base.take lo).drop at_).map .string) rfl HRD.out (one_strings _) n1 n2 MS.out.z ?_)
          intro v1 w4 h41 h42 h43
          have hlp : ((base.take lo).drop at_).length = lo - at_ := by rw [List.length_drop, List.length_take]; omega
          have MS4 := Lib.hid (MS.out.app (vo' := v1) (out' := out ++ (base.take lo).drop at_) (by rw [List.length_append, hlp, List.map_append, List.map_drop, List.map_take]; simpa using h41) h42)
          clear h41 h42 h43 HRD hsl MS n1 n1a n1b n2
          go_wp2_with fail
          have hna : P.1 ≤ la.length := by have := RO.out.na; rwa [List.length_map] at this
          have hnb : P.2.1 ≤ lb.length := by have := RO.out.nb; rwa [List.length_map] at this
          have hnx2 : nx = P.1 := by rw [← hnx, List.length_take]; omega
          have hny2 : ny = P.2.1 := by rw [← hny, List.length_take]; omega
          have hsome := RO.out.some
          obtain ⟨U, hU⟩ : ∃ U, mkL base P.2.2 ((la.take P.1).map HV.h) lo = U := ⟨_, rfl⟩
          obtain ⟨V, hV⟩ : ∃ V, mkL base P.2.2 ((lb.take P.2.1).map HV.h) lo = V := ⟨_, rfl⟩
          have hUl : U.length ≤ nx * 300 + 100 := by
            rw [← hU, ← hnx]
            have := mkL_len base P.2.2 ((la.take P.1).map HV.h) lo (fun h hh => by obtain ⟨x, hx, rfl⟩ := List.mem_map.1 hh; exact OKA.out.ls x (List.mem_of_mem_take hx)) (by omega)
            rwa [List.length_map] at this
          have hVl : V.length ≤ ny * 300 + 100 := by
            rw [← hV, ← hny]
            have := mkL_len base P.2.2 ((lb.take P.2.1).map HV.h) lo (fun h hh => by obtain ⟨x, hx, rfl⟩ := List.mem_map.1 hh; exact OKB.out.ls x (List.mem_of_mem_take hx)) (by omega)
            rwa [List.length_map] at this
          have HU := Lib.hid hU
          have HV_ := Lib.hid hV
          have CA := Lib.hid (made_any (.slice An base.length cn) (.slice Ax nx cx) base lo P.2.2 (la.take P.1) w4 (HN.out.later MS4.out.be) (by obtain ⟨b, o⟩ := MS4.out.ox; exact CRow.of_own hvc_len o) (fun x hx => SRow.of_off (MS4.out.l x (HMA.out x (List.mem_of_mem_take hx)))) (by rw [List.map_take]; exact RO.out.ma) (by omega) (by rw [hnx]; omega) (fun x hx => ⟨OKA.out.ls x (List.mem_of_mem_take hx), by have := OKA.out.hi x (List.mem_of_mem_take hx); omega⟩))
          rw [hU] at CA
          clear hU
          refine CA.out.mono ?_
          rintro e w5 ⟨vu, rfl, hu5, hb5⟩
          have MS5 := Lib.hid (MS4.out.below hb5)
          have MU5 := Lib.hid (MU.new hu5 (fun q hq => (MS4.out.ow.lt q hq).2) : MU w5 v1 vu U)
          clear CA MS4 hu5 hb5
          have CB := Lib.hid (made_any (.slice An base.length cn) (.slice Ay ny cy) base lo P.2.2 (lb.take P.2.1) w5 (HN.out.later MS5.out.be) (by obtain ⟨b, o⟩ := MS5.out.oy; exact CRow.of_own hvc_len o) (fun x hx => SRow.of_off (MS5.out.l x (HMB.out x (List.mem_of_mem_take hx)))) (by rw [List.map_take]; exact RO.out.mb) (by omega) (by rw [hny]; omega) (fun x hx => ⟨OKB.out.ls x (List.mem_of_mem_take hx), by have := OKB.out.hi x (List.mem_of_mem_take hx); omega⟩))
          rw [hV] at CB
          have HNX := Lib.hid hnx2
          have HNY := Lib.hid hny2
          clear hV hnx hny hnx2 hny2
          go_wp2_with fail
          refine CB.out.mono ?_
          rintro e w6 ⟨vv, rfl, hv6, hb6⟩
          obtain ⟨Au, cu, rfl, hu6, hu7⟩ := own_slice MU5.out.own.choose_spec
          obtain ⟨Av, cv, rfl, hv7, hv8⟩ := own_slice hv6
          have MS6 := Lib.hid (MS5.out.below hb6)
          have MX6 := Lib.hid (MU5.out.below hb6)
          have MY6 := Lib.hid (MU.new hv6 (fun q hq => (MS5.out.ow.lt q hq).2) : MU w6 v1 _ V)
          clear CB MS5 MU5 hv6 hb6
          obtain ⟨f', rfl⟩ : ∃ f', f = f' + 1 := ⟨f - 1, by omega⟩
          obtain ⟨O1, hO1⟩ : ∃ O1, out ++ (base.take lo).drop at_ = O1 := ⟨_, rfl⟩
          rw [hO1] at MS6
          have hO1l : O1.length ≤ out.length + 80 := by rw [← hO1, List.length_append, hlp]; omega
          have HR2 : Hid (R = (O1 ++ (piece marksM ((la.take P.1).map HV.h) ((lb.take P.2.1).map HV.h) U V).1 ++ (mg marksM base f' ((la.drop P.1).map HV.h) ((lb.drop P.2.1).map HV.h) P.2.2).1, c + (piece marksM ((la.take P.1).map HV.h) ((lb.take P.2.1).map HV.h) U V).2 + (mg marksM base f' ((la.drop P.1).map HV.h) ((lb.drop P.2.1).map HV.h) P.2.2).2)) := Lib.hid (by
            have h1 := HR.out
            rw [mg_step marksM base f' _ _ at_ (by rw [List.length_map, List.length_map]; omega) P.1 P.2.1 P.2.2 (by rw [List.length_map, List.length_map]; exact HP.out), HLO.out, ← List.map_take, ← List.map_take, ← List.map_drop, ← List.map_drop, HU.out, HV_.out] at h1
            rw [h1, ← hO1]
            simp only [List.append_assoc, Nat.add_assoc])
          have hxl : ((la.take P.1).map HV.h).length = nx := by rw [List.length_map, List.length_take, HNX.out]; omega
          have hyl : ((lb.take P.2.1).map HV.h).length = ny := by rw [List.length_map, List.length_take, HNY.out]; omega
          have hnx4 : nx ≤ 400 := by rw [HNX.out]; omega
          have hny4 : ny ≤ 400 := by rw [HNY.out]; omega
          have hla5 : (la.drop P.1).length + nx = la.length := by rw [List.length_drop, HNX.out]; omega
          have hlb5 : (lb.drop P.2.1).length + ny = lb.length := by rw [List.length_drop, HNY.out]; omega
          have hsum : 0 < nx + ny := by rw [HNX.out, HNY.out]; exact hsome
          have hOb : O1.length ≤ 250000080 := Nat.le_trans hO1l (Nat.add_le_add_right n0 80)
          have hUb : U.length ≤ 120100 := by omega
          have hVb : V.length ≤ 120100 := by omega
          have FX := Lib.hid (show (∀ x ∈ la.drop P.1, P.2.2 ≤ x.h.lo) ∧ ∀ x ∈ lb.drop P.2.1, P.2.2 ≤ x.h.lo from ⟨fun x hx => RO.out.xa x.h (by rw [← List.map_drop]; exact List.mem_map_of_mem hx), fun x hx => RO.out.xb x.h (by rw [← List.map_drop]; exact List.mem_map_of_mem hx)⟩)
          have HXL := Lib.hid hxl
          have HYL := Lib.hid hyl
          clear HR HU HV_ hlp hO1 hna hnb hsome hxl hyl
          rcases Nat.eq_zero_or_pos ny with hny0 | hny0
          · subst hny0
            have n9 := ok_len (Nat.le_refl (O1.length + U.length)) (by omega) (by omega)
            go_wp2_with (at_builtin; refine wpList_append_any _ rfl (.tmp 108) (.tmp 109) _ rfl W2.heap.size 9 iS _ 1 16 Try.underlying24 hi_ hs0 hs1 hs2 rfl (by decide) _ (O1).length ((O1).map .string) rfl MS6.out.ow _ Au (U).length _ ((U).map .string) rfl MX6.out.reads (one_strings _) n9.1 n9.2 MS6.out.z ?_)
            intro v8 w8 h81 h82 h83
            have MS8 := Lib.hid (MS6.out.app (vo' := v8) (out' := O1 ++ U) (by rw [List.length_append, List.map_append]; exact h81) h82)
            go_wp2_with fail
            have hR := HR2.out
            have hpc : piece marksM ((la.take P.1).map HV.h) ((lb.take P.2.1).map HV.h) U V = (U, 0) := by unfold piece; rw [if_pos (.inl HYL.out)]
            rw [hpc] at hR
            have hpl : (U).length ≤ 249000 := by omega
            have hOe : (O1 ++ U) = O1 ++ (U) := by rfl
            have hOl : (O1 ++ U).length ≤ O1.length + 249000 := by rw [hOe, List.length_append]; exact Nat.add_le_add_left hpl _
            refine ⟨⟨la.drop P.1, lb.drop P.2.1, va3, vb3, O1 ++ U, c, P.2.2, f', by omega, by omega, by omega, fun x hx => HMA.out x (List.mem_of_mem_drop hx), fun x hx => HMB.out x (List.mem_of_mem_drop hx), OKA.out.drop _, OKB.out.drop _, FX.out.1, FX.out.2, hHn, by go_num, rfl, by rw [hOe]; exact hR, by omega, by omega, MS8.out.ow, MS8.out.z, MS8.out.a, MS8.out.b, MS8.out.l, MS8.out.be⟩, ?_⟩
            have e0 := MS8.out.a.blk.cell 0
            have e1 := MS8.out.b.blk.cell 0
            obtain ⟨A5, c5, e5, _⟩ := off_slice MS8.out.a.row
            obtain ⟨A6, c6, e6, _⟩ := off_slice MS8.out.b.row
            rw [e5] at e0
            rw [e6] at e1
            rw [e0, e1, HC0.out.1, HC0.out.2]
            show (la.drop P.1).length + (lb.drop P.2.1).length < la.length + lb.length
            omega
          · have t9 : decide ((ny : Int) = 0) = false := decide_eq_false (by omega)
            have t8 : ((ny : Int) == 0) = false := by simp; omega
            have EQ := Lib.hid (equal_any _ _ U V w6 MX6.out.srow MY6.out.srow)
            go_wp2_with fail
            refine EQ.out.mono ?_
            rintro e w7 ⟨rfl, hb7⟩
            have MS7 := Lib.hid (MS6.out.below hb7)
            have MX7 := Lib.hid (MX6.out.below hb7)
            have MY7 := Lib.hid (MY6.out.below hb7)
            clear MS6 MX6 MY6 hb7 EQ t8 t9
            by_cases hUV : U = V
            · have HUV := Lib.hid hUV
              have d0 : decide (U = V) = true := decide_eq_true hUV
              rw [d0]
              clear hUV d0
              have n9 := ok_len (Nat.le_refl (O1.length + U.length)) (by omega) (by omega)
              go_wp2_with (at_builtin; refine wpList_append_any _ rfl (.tmp 108) (.tmp 109) _ rfl W2.heap.size 9 iS _ 1 16 Try.underlying24 hi_ hs0 hs1 hs2 rfl (by decide) _ (O1).length ((O1).map .string) rfl MS7.out.ow _ Au (U).length _ ((U).map .string) rfl MX7.out.reads (one_strings _) n9.1 n9.2 MS7.out.z ?_)
              intro v8 w8 h81 h82 h83
              have MS8 := Lib.hid (MS7.out.app (vo' := v8) (out' := O1 ++ U) (by rw [List.length_append, List.map_append]; exact h81) h82)
              go_wp2_with fail
              have hR := HR2.out
              have hpc : piece marksM ((la.take P.1).map HV.h) ((lb.take P.2.1).map HV.h) U V = (U, 0) := by unfold piece; rw [if_pos (.inr HUV.out)]
              rw [hpc] at hR
              have hpl : (U).length ≤ 249000 := by omega
              have hOe : (O1 ++ U) = O1 ++ (U) := by rfl
              have hOl : (O1 ++ U).length ≤ O1.length + 249000 := by rw [hOe, List.length_append]; exact Nat.add_le_add_left hpl _
              refine ⟨⟨la.drop P.1, lb.drop P.2.1, va3, vb3, O1 ++ U, c, P.2.2, f', by omega, by omega, by omega, fun x hx => HMA.out x (List.mem_of_mem_drop hx), fun x hx => HMB.out x (List.mem_of_mem_drop hx), OKA.out.drop _, OKB.out.drop _, FX.out.1, FX.out.2, hHn, by go_num, rfl, by rw [hOe]; exact hR, by omega, by omega, MS8.out.ow, MS8.out.z, MS8.out.a, MS8.out.b, MS8.out.l, MS8.out.be⟩, ?_⟩
              have e0 := MS8.out.a.blk.cell 0
              have e1 := MS8.out.b.blk.cell 0
              obtain ⟨A5, c5, e5, _⟩ := off_slice MS8.out.a.row
              obtain ⟨A6, c6, e6, _⟩ := off_slice MS8.out.b.row
              rw [e5] at e0
              rw [e6] at e1
              rw [e0, e1, HC0.out.1, HC0.out.2]
              show (la.drop P.1).length + (lb.drop P.2.1).length < la.length + lb.length
              omega
            · have HUV := Lib.hid hUV
              have d0 : decide (U = V) = false := decide_eq_false hUV
              rw [d0]
              clear hUV d0
              have HNE : ¬ (((lb.take P.2.1).map HV.h).length = 0 ∨ U = V) := fun h => h.elim (fun e => by rw [HYL.out] at e; omega) HUV.out
              have HNE := Lib.hid HNE
              rcases Nat.eq_zero_or_pos nx with hnx0 | hnx0
              · subst hnx0
                have n9 := ok_len (Nat.le_refl (O1.length + V.length)) (by omega) (by omega)
                go_wp2_with (at_builtin; refine wpList_append_any _ rfl (.tmp 115) (.tmp 116) _ rfl W2.heap.size 9 iS _ 1 16 Try.underlying24 hi_ hs0 hs1 hs2 rfl (by decide) _ (O1).length ((O1).map .string) rfl MS7.out.ow _ Av (V).length _ ((V).map .string) rfl MY7.out.reads (one_strings _) n9.1 n9.2 MS7.out.z ?_)
                intro v8 w8 h81 h82 h83
                have MS8 := Lib.hid (MS7.out.app (vo' := v8) (out' := O1 ++ V) (by rw [List.length_append, List.map_append]; exact h81) h82)
                go_wp2_with fail
                have hR := HR2.out
                have hpc : piece marksM ((la.take P.1).map HV.h) ((lb.take P.2.1).map HV.h) U V = (V, 0) := by unfold piece; rw [if_neg HNE.out, if_pos HXL.out]
                rw [hpc] at hR
                have hpl : (V).length ≤ 249000 := by omega
                have hOe : (O1 ++ V) = O1 ++ (V) := by rfl
                have hOl : (O1 ++ V).length ≤ O1.length + 249000 := by rw [hOe, List.length_append]; exact Nat.add_le_add_left hpl _
                refine ⟨⟨la.drop P.1, lb.drop P.2.1, va3, vb3, O1 ++ V, c, P.2.2, f', by omega, by omega, by omega, fun x hx => HMA.out x (List.mem_of_mem_drop hx), fun x hx => HMB.out x (List.mem_of_mem_drop hx), OKA.out.drop _, OKB.out.drop _, FX.out.1, FX.out.2, hHn, by go_num, rfl, by rw [hOe]; exact hR, by omega, by omega, MS8.out.ow, MS8.out.z, MS8.out.a, MS8.out.b, MS8.out.l, MS8.out.be⟩, ?_⟩
                have e0 := MS8.out.a.blk.cell 0
                have e1 := MS8.out.b.blk.cell 0
                obtain ⟨A5, c5, e5, _⟩ := off_slice MS8.out.a.row
                obtain ⟨A6, c6, e6, _⟩ := off_slice MS8.out.b.row
                rw [e5] at e0
                rw [e6] at e1
                rw [e0, e1, HC0.out.1, HC0.out.2]
                show (la.drop P.1).length + (lb.drop P.2.1).length < la.length + lb.length
                omega
              · have t9 : decide ((nx : Int) = 0) = false := decide_eq_false (by omega)
                have t8 : ((nx : Int) == 0) = false := by simp; omega
                have BN := below_new w7 (.cells #[.string markA] 9)
                have MSa := Lib.hid (MS7.out.below BN)
                have MXa := Lib.hid (MX7.out.below BN)
                have MYa := Lib.hid (MY7.out.below BN)
                clear BN
                have hLl : ([markA]).length ≤ 120100 := by first | assumption | decide
                have n9 := ok_len (Nat.le_refl ((O1).length + ([markA]).length)) (by omega) (Nat.le_trans hLl (by decide))
                go_wp2_with (at_builtin; refine wpList_append_any _ rfl (.tmp 86) (.tmp 87) _ rfl W2.heap.size 9 iS _ 1 16 Try.underlying24 hi_ hs0 hs1 hs2 rfl (by decide) _ (O1).length ((O1).map .string) rfl MSa.out.ow _ _ ([markA]).length _ (([markA]).map .string) rfl (reads_new w7 (.string markA) 9) (one_strings _) n9.1 n9.2 MSa.out.z ?_)
                intro v8 w8 h81 h82 h83
                obtain ⟨O2, hO2⟩ : ∃ O2, O1 ++ [markA] = O2 := ⟨_, rfl⟩
                have hlO2 : (O2).length ≤ (O1).length + ([markA]).length := by rw [← hO2, List.length_append]; exact Nat.le_refl _
                try simp only [List.length_cons, List.length_nil, Nat.zero_add] at hlO2
                have MSO2 := Lib.hid (MSa.out.app (vo' := v8) (out' := O2) (by rw [← hO2, List.length_append, List.map_append]; exact h81) h82)
                have MXO2 := Lib.hid (MXa.out.app (vo' := v8) h82 (by first | exact h83 | simpa using h83))
                have MYO2 := Lib.hid (MYa.out.app (vo' := v8) h82 (by first | exact h83 | simpa using h83))
                have HO2 := Lib.hid hO2
                clear h81 h82 h83 hO2 n9 hLl
                clear MSa MXa MYa MS7 MX7 MY7
                have hLl : (U).length ≤ 120100 := by first | assumption | decide
                have n9 := ok_len (Nat.le_refl ((O2).length + (U).length)) (by omega) (Nat.le_trans hLl (by decide))
                go_wp2_with (at_builtin; refine wpList_append_any _ rfl (.tmp 88) (.tmp 89) _ rfl W2.heap.size 9 iS _ 1 16 Try.underlying24 hi_ hs0 hs1 hs2 rfl (by decide) _ (O2).length ((O2).map .string) rfl MSO2.out.ow _ Au (U).length _ ((U).map .string) rfl MXO2.out.reads (one_strings _) n9.1 n9.2 MSO2.out.z ?_)
                intro v9 w9 h81 h82 h83
                obtain ⟨O3, hO3⟩ : ∃ O3, O2 ++ U = O3 := ⟨_, rfl⟩
                have hlO3 : (O3).length ≤ (O2).length + (U).length := by rw [← hO3, List.length_append]; exact Nat.le_refl _
                try simp only [List.length_cons, List.length_nil, Nat.zero_add] at hlO3
                have MSO3 := Lib.hid (MSO2.out.app (vo' := v9) (out' := O3) (by rw [← hO3, List.length_append, List.map_append]; exact h81) h82)
                have MXO3 := Lib.hid (MXO2.out.app (vo' := v9) h82 (by first | exact h83 | simpa using h83))
                have MYO3 := Lib.hid (MYO2.out.app (vo' := v9) h82 (by first | exact h83 | simpa using h83))
                have HO3 := Lib.hid hO3
                clear h81 h82 h83 hO3 n9 hLl
                clear MSO2 MXO2 MYO2
                have BN := below_new w9 (.cells #[.string markB] 9)
                have MSa := Lib.hid (MSO3.out.below BN)
                have MXa := Lib.hid (MXO3.out.below BN)
                have MYa := Lib.hid (MYO3.out.below BN)
                clear BN
                have hLl : ([markB]).length ≤ 120100 := by first | assumption | decide
                have n9 := ok_len (Nat.le_refl ((O3).length + ([markB]).length)) (by omega) (Nat.le_trans hLl (by decide))
                go_wp2_with (at_builtin; refine wpList_append_any _ rfl (.tmp 91) (.tmp 92) _ rfl W2.heap.size 9 iS _ 1 16 Try.underlying24 hi_ hs0 hs1 hs2 rfl (by decide) _ (O3).length ((O3).map .string) rfl MSa.out.ow _ _ ([markB]).length _ (([markB]).map .string) rfl (reads_new w9 (.string markB) 9) (one_strings _) n9.1 n9.2 MSa.out.z ?_)
                intro v10 w10 h81 h82 h83
                obtain ⟨O4, hO4⟩ : ∃ O4, O3 ++ [markB] = O4 := ⟨_, rfl⟩
                have hlO4 : (O4).length ≤ (O3).length + ([markB]).length := by rw [← hO4, List.length_append]; exact Nat.le_refl _
                try simp only [List.length_cons, List.length_nil, Nat.zero_add] at hlO4
                have MSO4 := Lib.hid (MSa.out.app (vo' := v10) (out' := O4) (by rw [← hO4, List.length_append, List.map_append]; exact h81) h82)
                have MXO4 := Lib.hid (MXa.out.app (vo' := v10) h82 (by first | exact h83 | simpa using h83))
                have MYO4 := Lib.hid (MYa.out.app (vo' := v10) h82 (by first | exact h83 | simpa using h83))
                have HO4 := Lib.hid hO4
                clear h81 h82 h83 hO4 n9 hLl
                clear MSa MXa MYa MSO3 MXO3 MYO3
                have hLl : (V).length ≤ 120100 := by first | assumption | decide
                have n9 := ok_len (Nat.le_refl ((O4).length + (V).length)) (by omega) (Nat.le_trans hLl (by decide))
                go_wp2_with (at_builtin; refine wpList_append_any _ rfl (.tmp 93) (.tmp 94) _ rfl W2.heap.size 9 iS _ 1 16 Try.underlying24 hi_ hs0 hs1 hs2 rfl (by decide) _ (O4).length ((O4).map .string) rfl MSO4.out.ow _ Av (V).length _ ((V).map .string) rfl MYO4.out.reads (one_strings _) n9.1 n9.2 MSO4.out.z ?_)
                intro v11 w11 h81 h82 h83
                obtain ⟨O5, hO5⟩ : ∃ O5, O4 ++ V = O5 := ⟨_, rfl⟩
                have hlO5 : (O5).length ≤ (O4).length + (V).length := by rw [← hO5, List.length_append]; exact Nat.le_refl _
                try simp only [List.length_cons, List.length_nil, Nat.zero_add] at hlO5
                have MSO5 := Lib.hid (MSO4.out.app (vo' := v11) (out' := O5) (by rw [← hO5, List.length_append, List.map_append]; exact h81) h82)
                have MXO5 := Lib.hid (MXO4.out.app (vo' := v11) h82 (by first | exact h83 | simpa using h83))
                have MYO5 := Lib.hid (MYO4.out.app (vo' := v11) h82 (by first | exact h83 | simpa using h83))
                have HO5 := Lib.hid hO5
                clear h81 h82 h83 hO5 n9 hLl
                clear MSO4 MXO4 MYO4
                have BN := below_new w11 (.cells #[.string markC] 9)
                have MSa := Lib.hid (MSO5.out.below BN)
                have MXa := Lib.hid (MXO5.out.below BN)
                have MYa := Lib.hid (MYO5.out.below BN)
                clear BN
                have hLl : ([markC]).length ≤ 120100 := by first | assumption | decide
                have n9 := ok_len (Nat.le_refl ((O5).length + ([markC]).length)) (by omega) (Nat.le_trans hLl (by decide))
                go_wp2_with (at_builtin; refine wpList_append_any _ rfl (.tmp 96) (.tmp 97) _ rfl W2.heap.size 9 iS _ 1 16 Try.underlying24 hi_ hs0 hs1 hs2 rfl (by decide) _ (O5).length ((O5).map .string) rfl MSa.out.ow _ _ ([markC]).length _ (([markC]).map .string) rfl (reads_new w11 (.string markC) 9) (one_strings _) n9.1 n9.2 MSa.out.z ?_)
                intro v12 w12 h81 h82 h83
                obtain ⟨O6, hO6⟩ : ∃ O6, O5 ++ [markC] = O6 := ⟨_, rfl⟩
                have hlO6 : (O6).length ≤ (O5).length + ([markC]).length := by rw [← hO6, List.length_append]; exact Nat.le_refl _
                try simp only [List.length_cons, List.length_nil, Nat.zero_add] at hlO6
                have MSO6 := Lib.hid (MSa.out.app (vo' := v12) (out' := O6) (by rw [← hO6, List.length_append, List.map_append]; exact h81) h82)
                have MXO6 := Lib.hid (MXa.out.app (vo' := v12) h82 (by first | exact h83 | simpa using h83))
                have MYO6 := Lib.hid (MYa.out.app (vo' := v12) h82 (by first | exact h83 | simpa using h83))
                have HO6 := Lib.hid hO6
                clear h81 h82 h83 hO6 n9 hLl
                clear MSa MXa MYa MSO5 MXO5 MYO5
                go_wp2_with fail
                have hml : (marksM U V).length = U.length + V.length + 3 := by unfold marksM; simp only [List.length_append, List.length_cons, List.length_nil]; omega
                have hR := HR2.out
                have hpc : piece marksM ((la.take P.1).map HV.h) ((lb.take P.2.1).map HV.h) U V = (marksM U V, 1) := by unfold piece; rw [if_neg HNE.out, if_neg (fun e => by rw [HXL.out] at e; omega)]
                rw [hpc] at hR
                have hpl : (marksM U V).length ≤ 249000 := by omega
                have hOe : (O6) = O1 ++ (marksM U V) := by rw [← HO6.out, ← HO5.out, ← HO4.out, ← HO3.out, ← HO2.out]; simp only [marksM, List.append_assoc]
                have hOl : (O6).length ≤ O1.length + 249000 := by rw [hOe, List.length_append]; exact Nat.add_le_add_left hpl _
                refine ⟨⟨la.drop P.1, lb.drop P.2.1, va3, vb3, O6, c + 1, P.2.2, f', by omega, by omega, by omega, fun x hx => HMA.out x (List.mem_of_mem_drop hx), fun x hx => HMB.out x (List.mem_of_mem_drop hx), OKA.out.drop _, OKB.out.drop _, FX.out.1, FX.out.2, hHn, by go_num, rfl, by rw [hOe]; exact hR, by omega, by omega, MSO6.out.ow, MSO6.out.z, MSO6.out.a, MSO6.out.b, MSO6.out.l, MSO6.out.be⟩, ?_⟩
                have e0 := MSO6.out.a.blk.cell 0
                have e1 := MSO6.out.b.blk.cell 0
                obtain ⟨A5, c5, e5, _⟩ := off_slice MSO6.out.a.row
                obtain ⟨A6, c6, e6, _⟩ := off_slice MSO6.out.b.row
                rw [e5] at e0
                rw [e6] at e1
                rw [e0, e1, HC0.out.1, HC0.out.2]
                show (la.drop P.1).length + (lb.drop P.2.1).length < la.length + lb.length
                omega
end Go.Proofs.Ytpgjjnbepkofdaa
