/-
  The walks of log.number, text, fits and fault.
-/
import Derived.Test.YtegobmlbldabbaaHistY
import Derived.Laws.IdiomStrings
import Derived.Lib.AppendStr
namespace Go.Proofs.Ytegobmlbldabbaa
open Go.RowKit
set_option linter.unusedVariables false

def by8 (l : List UInt8) : List Value := l.map fun b => Value.int .u8 (b.toNat : Int)
theorem by8_append (a b : List UInt8) : by8 (a ++ b) = by8 a ++ by8 b := by simp [by8]
theorem by8_len (a : List UInt8) : (by8 a).length = a.length := by simp [by8]
theorem by8_one (a : List UInt8) : ∀ u ∈ by8 a, u.oneCell' = true := by intro u hu; simp [by8] at hu; obtain ⟨b, _, rfl⟩ := hu; rfl
theorem u8_info : (Try.prog.info? 5).map (fun i => (i.zero, i.size, i.bytes)) = some (some (.int .u8 0), 1, 1) := by kernel_rfl
def num (n : Nat) : List UInt8 := [UInt8.ofNat (n / 256), UInt8.ofNat n]
theorem u8_of (n : Nat) : ((UInt8.ofNat n).toNat : Int) = (n : Int) % 256 := by
  simp [UInt8.toNat_ofNat']
theorem by8_num (n : Nat) (h : n < 65536) : by8 (num n) = [.int .u8 ((n : Int) / 256), .int .u8 ((n : Int) % 256)] := by
  have h1 : ((UInt8.ofNat (n / 256)).toNat : Int) = (n : Int) / 256 := by rw [u8_of]; omega
  have h2 := u8_of n
  simp only [by8, num, List.map_cons, List.map_nil, h1, h2]
theorem strCells_by8 (s : ByteArray) : Lib.strCells s = by8 s.data.toList := by
  simp [Lib.strCells, by8]
/-- What is no bytes is kept. -/
def BK (w w' : World) : Prop := ∀ (g : Nat) (cs : Array Value) (t : TypeId) (fz : Nat × Nat), w.heap[g]? = some (.cells cs t fz) → t ≠ 5 → w'.heap[g]? = some (.cells cs t fz)
theorem BK.trans {a b c : World} (h : BK a b) (k : BK b c) : BK a c := fun g cs t fz e h1 => k g cs t fz (h g cs t fz e h1) h1
theorem BK.below {w w' : World} (hb : Below w.heap.size w w') : BK w w' := fun g cs t fz h _ => (hb.block g (heap_lt h)).trans h
theorem BK.own {w w' : World} {M n : Nat} {v : Value} {xs : List Value} (h : w.ownsRow M 5 1 v n xs) (hg : w.grownBy w' v.ownBlock) : BK w w' := by
  intro g cs t fz e h1
  refine (hg.block g (heap_lt e) ?_).trans e
  intro e2
  rcases h.2 with ⟨rfl, rfl⟩ | ⟨g', cap, cur, rfl, hb, hh, _⟩
  · simp [Value.ownBlock] at e2
  · simp only [Value.ownBlock] at e2
    injection e2 with e2
    subst e2
    rw [hh] at e
    injection e with e
    injection e with a1 a2 a3
    exact h1 a2.symm
theorem BK.blk {w w' : World} {g : Nat} {t : TypeId} {cs : Array Value} (h : BK w w') (hb : Blk w g t cs) (ht : t ≠ 5) : Blk w' g t cs := h g cs t (0, 0) hb ht
theorem drew_below' (W : World) : Below W.heap.size W W.drew := below_drewN (Below.refl _ _) 1
def BytesPost (base : Nat) (bs : List UInt8) (w : World) (e : Ending) (w' : World) : Prop := ∃ v, e = .returned v ∧ w'.ownsRow base 5 1 v bs.length (by8 bs) ∧ (∀ B, B ≤ base → ∀ w0, Below B w0 w → Below B w0 w') ∧ BK w w'
theorem from_grown {B base : Nat} {w w' w0 : World} {row : Option Nat} (hb : Below B w0 w) (hg : w.grownBy w' row) (hB : B ≤ w.heap.size) (hr : ∀ g, row = some g → B ≤ g) : Below B w0 w' := hb.grown hg hB hr
section
variable {P : Program} {w : World}
/-- Appending to a slice that is full and only read. -/
theorem wpList_append_full {ops : Array Oper} {rest : List Oper} {o : Oper} {a : Act} {Q : Exit → Act → World → Prop} (hgd : o.guard = none) (s x : Operand) (t : TypeId)
    (ho : o.op = .call { callee := .builtin .append, args := #[s, x], argTypes := #[t, t] })
    (e : TypeId) (z : Value) (size bytes : Nat) (ht : P.underlying t = some (.slice e)) (hi : (P.info? e).map (fun i => (i.zero, i.size, i.bytes)) = some (some z, size, bytes)) (hzs : z.cells.size = size) (hsz : 0 < size)
    (b : Addr) (n : Nat) (xs : List Value) (hs : a.eval s = .slice (some b) n n) (hxl : xs.length = n * size) (hxs : ∀ j u, xs[j]? = some u → w.cell? (b.add j) = some u)
    (ad : Addr) (m c : Nat) (news : List Value) (hx : a.eval x = .slice (some ad) m c) (hl : news.length = m * size) (hnews : ∀ j u, news[j]? = some u → w.cell? (ad.add j) = some u) (hm : 0 < m)
    (h63 : n + m ≤ 4611686018427387904) (hbytes : (n + m) * bytes ≤ 140737488355328)
    (h : ∀ v' w', w'.ownsRow w.heap.size e size v' (n + m) (xs ++ news) → Below w.heap.size w w' → wpList P ops Q rest (a.put o.dst v') w') : wpList P ops Q (o :: rest) a w := by
  obtain ⟨i, hi0, hz0, hzz, hzb⟩ := info_parts hi
  refine wpList_plain hgd fun K hK => ?_
  subst hzz
  subst hzb
  have hfit := growslice_fits (need := n + m) (old := n) (by omega) hbytes
  have hr := run_append_grow (P := P) w t o.type e i z ht hi0 hz0 b n n xs hxl hxs ad m c news hl hnews (by omega) (by omega) hfit
  unfold Oper.wp execOp
  simp only [ho, resolve, invoke, builtin, Sem.run_bind, Sem.run_pure, Result.andThen_ok, List.map_toArray, List.map_cons, List.map_nil, hs, hx, hr]
  have hge := grownCap_ge w (n + m) n e
  have hcap : grownCap w (n + m) n e ≤ maxLen := grownCap_le_maxLen w (n + m) n e (by unfold maxLen; omega)
  refine hK _ _ (h _ _ ⟨by rw [List.length_append, hxl, hl, Nat.add_mul], .inr ⟨w.heap.size, _, _, rfl, Nat.le_refl _, heap_alloc_new w.drew _, hge, hcap, ?_, ?_⟩⟩ (((drew_below' w)).alloc (by simp) _))
  · simp only [Array.size_append, List.size_toArray, size_zeroCells, hzs, hxl, hl, ← Nat.add_mul]
    have : n + m + (grownCap w (n + m) n e - (n + m)) = grownCap w (n + m) n e := by omega
    rw [this]
  · simp only [Array.toList_append, List.append_assoc]
    rw [← List.append_assoc, show (n + m) * i.size = (xs ++ news).length by rw [List.length_append, hxl, hl, Nat.add_mul]]
    exact List.take_left
end
set_option maxRecDepth 100000 in
set_option maxHeartbeats 2000000 in
theorem number_any (v : Value) (bs : List UInt8) (n : Nat) (base : Nat) (w : World) (h : w.ownsRow base 5 1 v bs.length (by8 bs)) (hn : n < 65536) (hl : bs.length ≤ 10000000) (hb : base ≤ w.heap.size) :
    Calls Try.prog 44 #[v, .int .i64 n] w (BytesPost base (bs ++ num n) w) := by
  have HN := Lib.hid (by8_num n hn)
  have hlt := h.lt
  have hal := (Below.refl w.heap.size w).alloc (Nat.le_refl _) (.cells #[.int .u8 ((n : Int) / 256), .int .u8 ((n : Int) % 256)] 5)
  have h2 := own_below h hal
  have hrd := Reads.news w [.int .u8 ((n : Int) / 256), .int .u8 ((n : Int) % 256)] 5 1 2 rfl
  obtain ⟨i, hi0, hz0, hzz, hzb⟩ := info_parts u8_info
  go_enter Try.func44, Try.ntmps44
  go_wp2_with (at_builtin; refine wpList_append_any _ rfl (.tmp 5) (.tmp 11) _ rfl base 5 i _ 1 1 Try.underlying27 hi0 hz0 hzz hzb rfl (by decide) v bs.length (by8 bs) rfl h2 _ (some ⟨w.heap.size, 0, none⟩) 2 2 [.int .u8 ((n : Int) / 256), .int .u8 ((n : Int) % 256)] rfl hrd (by simp [Value.oneCell']) (by unfold maxLen; omega) (by omega) (by simp; omega) ?_)
  intro v4 w4 ho4 hg4 hat4
  obtain ⟨A4, c4, rfl, hc4, hc5⟩ := own_slice ho4
  have HO := Lib.hid ho4
  have HG := Lib.hid hg4
  have HK := Lib.hid ((BK.below hal).trans (BK.own h2 hg4))
  clear ho4 hg4 hat4
  go_wp2_with fail
  go_ret
  refine ⟨_, rfl, ?_, fun B hB w0 hb0 => ?_, HK.out⟩
  · rw [by8_append, HN.out, List.length_append]; exact HO.out
  · exact (hb0.alloc (by have := hb0.size; omega) _).grown HG.out (by simp; omega) (fun g e => Nat.le_trans hB (hlt g e).1)
set_option maxRecDepth 100000 in
set_option maxHeartbeats 2000000 in
theorem text_any (v : Value) (bs : List UInt8) (s : ByteArray) (base : Nat) (w : World) (h : w.ownsRow base 5 1 v bs.length (by8 bs)) (hn : s.size < 65536) (hl : bs.length ≤ 1000000) (hb : base ≤ w.heap.size) :
    Calls Try.prog 45 #[v, .string s] w (BytesPost base (bs ++ (num s.size ++ s.data.toList)) w) := by
  have HNU := Lib.hid (number_any v bs s.size base w h hn (by omega) hb)
  obtain ⟨i, hi0, hz0, hzz, hzb⟩ := info_parts u8_info
  clear h
  go_enter Try.func45, Try.ntmps45
  go_wp2_with fail
  refine HNU.out.mono ?_
  rintro e w1 ⟨v1, rfl, ho1, hb1, hk1⟩
  have hlt1 := ho1.lt
  have hbw1 : base ≤ w1.heap.size := Nat.le_trans hb (hb1 base (Nat.le_refl _) w (Below.refl _ _)).size
  have hln : (num s.size).length = 2 := rfl
  have hll : (bs ++ num s.size).length = bs.length + 2 := by simp [hln]
  go_wp2_with (at_builtin; refine Lib.wpList_append_own_string _ rfl (.tmp 8) (.tmp 9) _ _ rfl base 5 i Try.underlying27 Try.underlying9 hi0 hz0 hzz hzb v1 (bs ++ num s.size).length (by8 (bs ++ num s.size)) rfl ho1 s rfl (by rw [hll]; unfold maxLen; omega) (by rw [hll]; omega) hbw1 ?_)
  intro v2 w2 ho2 hg2 _
  obtain ⟨A4, c4, rfl, hc4, hc5⟩ := own_slice ho2
  have HO := Lib.hid ho2
  have HG := Lib.hid hg2
  have HB := Lib.hid hb1
  have HK := Lib.hid (hk1.trans (BK.own ho1 hg2))
  clear ho2 hg2 ho1 hb1
  go_wp2_with fail
  go_ret
  refine ⟨_, rfl, ?_, fun B hB w0 hb0 => ?_, HK.out⟩
  · have e : (bs ++ (num s.size ++ s.data.toList)).length = (bs ++ num s.size).length + s.size := by simp; omega
    rw [← List.append_assoc, by8_append, List.length_append, ← strCells_by8, show s.data.toList.length = s.size by simp, hll]
    exact HO.out
  · exact (HB.out B hB w0 hb0).grown HG.out (by omega) (fun g e => Nat.le_trans hB (hlt1 g e).1)
set_option maxRecDepth 100000 in
set_option maxHeartbeats 2000000 in
/-- The same where the slice is full and only read. -/
theorem number_full (b : Nat) (bs : List UInt8) (n : Nat) (w : World) (hb : b < w.heap.size) (hc : ∀ j u, (by8 bs)[j]? = some u → w.cell? ⟨b, j, none⟩ = some u) (hn : n < 65536) (hl : bs.length ≤ 1000) :
    Calls Try.prog 44 #[.slice (some ⟨b, 0, none⟩) bs.length bs.length, .int .i64 n] w (BytesPost w.heap.size (bs ++ num n) w) := by
  have HN := Lib.hid (by8_num n hn)
  have hal := (Below.refl w.heap.size w).alloc (Nat.le_refl _) (.cells #[.int .u8 ((n : Int) / 256), .int .u8 ((n : Int) % 256)] 5)
  have hrd := Reads.news w [.int .u8 ((n : Int) / 256), .int .u8 ((n : Int) % 256)] 5 1 2 rfl
  obtain ⟨g9, o9, hg9, _, hcc⟩ := hrd.plain (by omega) (by omega)
  injection hg9 with hg9
  injection hg9 with hg9 ho9
  subst hg9 ho9
  have HC2 : ∀ j u, (by8 bs)[j]? = some u → (w.alloc (.cells #[.int .u8 ((n : Int) / 256), .int .u8 ((n : Int) % 256)] 5)).cell? ((⟨b, 0, none⟩ : Addr).add j) = some u := fun j u hu => by
    rw [add_plain, Nat.zero_add]; exact (hal.cell (p := ⟨b, j, none⟩) hb).trans (hc j u hu)
  have HC3 : ∀ j u, ([.int .u8 ((n : Int) / 256), .int .u8 ((n : Int) % 256)] : List Value)[j]? = some u → (w.alloc (.cells #[.int .u8 ((n : Int) / 256), .int .u8 ((n : Int) % 256)] 5)).cell? ((⟨w.heap.size, 0, none⟩ : Addr).add j) = some u := fun j u hu => by
    rw [add_plain]; exact hcc j u hu
  have HH2 := Lib.hid HC2
  have HH3 := Lib.hid HC3
  clear hcc HC2 HC3 hrd hc
  go_enter Try.func44, Try.ntmps44
  go_wp2_with (at_builtin; refine wpList_append_full rfl (.tmp 5) (.tmp 11) _ rfl 5 _ 1 1 Try.underlying27 u8_info rfl (by decide) ⟨b, 0, none⟩ bs.length (by8 bs) rfl (by simp [by8]) HH2.out ⟨w.heap.size, 0, none⟩ 2 2 [.int .u8 ((n : Int) / 256), .int .u8 ((n : Int) % 256)] rfl rfl HH3.out (by decide) (by omega) (by omega) ?_)
  intro v4 w4 ho4 hb4
  obtain ⟨A4, c4, rfl, hc4, hc5⟩ := own_slice ho4
  have HO := Lib.hid ho4
  have HB := Lib.hid (hal.trans (hb4.mono (Nat.le_succ _)))
  have HS := Lib.hid hal.size
  clear ho4 hb4 hal
  go_wp2_with fail
  go_ret
  refine ⟨_, rfl, ?_, fun B hB w0 hb0 => hb0.trans (HB.out.mono hB), BK.below HB.out⟩
  rw [by8_append, HN.out, List.length_append]
  exact own_mono HO.out (by simp)
set_option maxRecDepth 100000 in
set_option maxHeartbeats 2000000 in
theorem text_full (b : Nat) (bs : List UInt8) (s : ByteArray) (w : World) (hb : b < w.heap.size) (hc : ∀ j u, (by8 bs)[j]? = some u → w.cell? ⟨b, j, none⟩ = some u) (hn : s.size < 65536) (hl : bs.length ≤ 1000) :
    Calls Try.prog 45 #[.slice (some ⟨b, 0, none⟩) bs.length bs.length, .string s] w (BytesPost w.heap.size (bs ++ (num s.size ++ s.data.toList)) w) := by
  have HNU := Lib.hid (number_full b bs s.size w hb hc hn hl)
  obtain ⟨i, hi0, hz0, hzz, hzb⟩ := info_parts u8_info
  clear hc
  go_enter Try.func45, Try.ntmps45
  go_wp2_with fail
  refine HNU.out.mono ?_
  rintro e w1 ⟨v1, rfl, ho1, hb1, hk1⟩
  have hlt1 := ho1.lt
  have hbw1 : w.heap.size ≤ w1.heap.size := (hb1 w.heap.size (Nat.le_refl _) w (Below.refl _ _)).size
  have hln : (num s.size).length = 2 := rfl
  have hll : (bs ++ num s.size).length = bs.length + 2 := by simp [hln]
  go_wp2_with (at_builtin; refine Lib.wpList_append_own_string _ rfl (.tmp 8) (.tmp 9) _ _ rfl w.heap.size 5 i Try.underlying27 Try.underlying9 hi0 hz0 hzz hzb v1 (bs ++ num s.size).length (by8 (bs ++ num s.size)) rfl ho1 s rfl (by rw [hll]; unfold maxLen; omega) (by rw [hll]; omega) hbw1 ?_)
  intro v2 w2 ho2 hg2 _
  obtain ⟨A4, c4, rfl, hc4, hc5⟩ := own_slice ho2
  have HO := Lib.hid ho2
  have HG := Lib.hid hg2
  have HB := Lib.hid hb1
  have HK := Lib.hid (hk1.trans (BK.own ho1 hg2))
  clear ho2 hg2 ho1 hb1
  go_wp2_with fail
  go_ret
  refine ⟨_, rfl, ?_, fun B hB w0 hb0 => ?_, HK.out⟩
  · rw [← List.append_assoc, by8_append, List.length_append, ← strCells_by8, show s.data.toList.length = s.size by simp, hll]
    exact HO.out
  · exact (HB.out B hB w0 hb0).grown HG.out (by omega) (fun g e => Nat.le_trans hB (hlt1 g e).1)
end Go.Proofs.Ytegobmlbldabbaa
