/-
  The walks of the history's Deed, all kinds, of play, Play and Counts.
-/
import Derived.Test.YtegobmlbldabbaaHistU
namespace Go.Proofs.Ytegobmlbldabbaa
open Go.RowKit
set_option linter.unusedVariables false

set_option maxRecDepth 100000 in
set_option maxHeartbeats 4000000 in
theorem deed_undo0 (B R : Nat) (h : Hs) (w : World) (hm : HM w B R h) (hu0 : h.undo = []) :
    Calls Try.prog 86 #[.pointer (some ⟨R, 0, none⟩), ddv .undo] w (DeedPost B R h .undo w) := by
  have hbl : Below w.heap.size w (w.alloc (.cells #[.int .i64 3, .int .i64 0, .int .i64 0, .string ⟨#[]⟩] 36)) := (Below.refl _ _).alloc (Nat.le_refl _) _
  have hD := Blk.new w 36 #[.int .i64 3, .int .i64 0, .int .i64 0, .string ⟨#[]⟩]
  have hD0 : (w.alloc (.cells #[.int .i64 3, .int .i64 0, .int .i64 0, .string ⟨#[]⟩] 36)).cell? ⟨w.heap.size, 0, none⟩ = some (.int .i64 3) := by rw [hD.cell]; rfl
  have hBs : B ≤ w.heap.size := by obtain ⟨M, vu, vr, us, rs, h1, _, _⟩ := hm; exact Nat.le_trans h1.mb h1.ms
  have e2 : deed h .undo = (h, 7) := by
    obtain ⟨t, us, rs, o⟩ := h
    simp only at hu0
    subst hu0
    rfl
  have HMM := Lib.hid hm
  have hpop : Calls Try.prog 100 #[.pointer (some ⟨R, 1, none⟩)] (w.alloc (.cells #[.int .i64 3, .int .i64 0, .int .i64 0, .string ⟨#[]⟩] 36)) (fun e w' => e = .returned (.tuple #[.agg #[.slice none 0 0, .slice none 0 0], .bool false]) ∧ Below (w.alloc (.cells #[.int .i64 3, .int .i64 0, .int .i64 0, .string ⟨#[]⟩] 36)).heap.size (w.alloc (.cells #[.int .i64 3, .int .i64 0, .int .i64 0, .string ⟨#[]⟩] 36)) w') := by
    obtain ⟨M, vu, vr, us, rs, h1, hu, hr⟩ := hm.below hbl
    rw [hu0] at hu
    have e : us = [] := by simpa using hu
    subst e
    refine (pop_any B R 1 _ _ _ _ vu [] _ (.inl rfl) h1.hist rfl h1.un (by simp) (by simp)).mono ?_
    rintro e w' (⟨_, he, hb⟩ | ⟨i', x', v', he, _⟩)
    · exact ⟨he, hb⟩
    · simp at he
  have HBL := Lib.hid hbl
  have HPOP := Lib.hid hpop
  clear hpop
  unfold ddv DeedPost
  rw [e2]
  clear hm e2 hD hbl hu0
  go_enter Try.func86, Try.ntmps86
  go_wp2_with (
    go_at_call 100
    refine HPOP.out.mono ?_
    rintro e w1 ⟨rfl, hb1⟩
    have HB1 := Lib.hid (below_trans3 HBL.out hb1))
  have hb2 : Below w.heap.size w (w1.alloc (.cells #[.slice none 0 0, .slice none 0 0] 173)) := HB1.out.alloc HB1.out.size _
  refine bodyPost_ret (v := .tuple #[.slice none 0 0, .int .i64 7]) (by simp [results, Try.results86, go_sem]) rfl ⟨_, rfl, HMM.out.below hb2, hb2.mono hBs, TK.below hb2⟩
set_option maxRecDepth 100000 in
set_option maxHeartbeats 4000000 in
theorem deed_redo0 (B R : Nat) (h : Hs) (w : World) (hm : HM w B R h) (hu0 : h.redo = []) :
    Calls Try.prog 86 #[.pointer (some ⟨R, 0, none⟩), ddv .redo] w (DeedPost B R h .redo w) := by
  have hbl : Below w.heap.size w (w.alloc (.cells #[.int .i64 4, .int .i64 0, .int .i64 0, .string ⟨#[]⟩] 36)) := (Below.refl _ _).alloc (Nat.le_refl _) _
  have hD := Blk.new w 36 #[.int .i64 4, .int .i64 0, .int .i64 0, .string ⟨#[]⟩]
  have hD0 : (w.alloc (.cells #[.int .i64 4, .int .i64 0, .int .i64 0, .string ⟨#[]⟩] 36)).cell? ⟨w.heap.size, 0, none⟩ = some (.int .i64 4) := by rw [hD.cell]; rfl
  have hBs : B ≤ w.heap.size := by obtain ⟨M, vu, vr, us, rs, h1, _, _⟩ := hm; exact Nat.le_trans h1.mb h1.ms
  have e2 : deed h .redo = (h, 7) := by
    obtain ⟨t, us, rs, o⟩ := h
    simp only at hu0
    subst hu0
    rfl
  have HMM := Lib.hid hm
  have hpop : Calls Try.prog 100 #[.pointer (some ⟨R, 2, none⟩)] (w.alloc (.cells #[.int .i64 4, .int .i64 0, .int .i64 0, .string ⟨#[]⟩] 36)) (fun e w' => e = .returned (.tuple #[.agg #[.slice none 0 0, .slice none 0 0], .bool false]) ∧ Below (w.alloc (.cells #[.int .i64 4, .int .i64 0, .int .i64 0, .string ⟨#[]⟩] 36)).heap.size (w.alloc (.cells #[.int .i64 4, .int .i64 0, .int .i64 0, .string ⟨#[]⟩] 36)) w') := by
    obtain ⟨M, vu, vr, us, rs, h1, hu, hr⟩ := hm.below hbl
    rw [hu0] at hr
    have e : rs = [] := by simpa using hr
    subst e
    refine (pop_any B R 2 _ _ _ _ vr [] _ (.inr rfl) h1.hist rfl h1.re (by simp) (by simp)).mono ?_
    rintro e w' (⟨_, he, hb⟩ | ⟨i', x', v', he, _⟩)
    · exact ⟨he, hb⟩
    · simp at he
  have HBL := Lib.hid hbl
  have HPOP := Lib.hid hpop
  clear hpop
  unfold ddv DeedPost
  rw [e2]
  clear hm e2 hD hbl hu0
  go_enter Try.func86, Try.ntmps86
  go_wp2_with (
    go_at_call 100
    refine HPOP.out.mono ?_
    rintro e w1 ⟨rfl, hb1⟩
    have HB1 := Lib.hid (below_trans3 HBL.out hb1))
  have hb2 : Below w.heap.size w (w1.alloc (.cells #[.slice none 0 0, .slice none 0 0] 173)) := HB1.out.alloc HB1.out.size _
  refine bodyPost_ret (v := .tuple #[.slice none 0 0, .int .i64 7]) (by simp [results, Try.results86, go_sem]) rfl ⟨_, rfl, HMM.out.below hb2, hb2.mono hBs, TK.below hb2⟩
theorem deed_any (B R n : Nat) (b0 : ByteArray) (h : Hs) (d : Dd) (w : World) (hm : HM w B R h) (hg : Good n b0 h) (hn : n ≤ 100) (hd : dOk d) :
    Calls Try.prog 86 #[.pointer (some ⟨R, 0, none⟩), ddv d] w (DeedPost B R h d w) := by
  cases d with
  | do_ e => exact deed_do B R n b0 h e.p e.c e.put w hm hg hn hd.1 hd.2.1 hd.2.2
  | close => exact deed_close B R h w hm
  | undo =>
    rcases snocG h.undo with e | ⟨i, g, e⟩
    · exact deed_undo0 B R h w hm e
    · exact deed_undo B R n b0 h i g w hm hg hn e
  | redo =>
    rcases snocG h.redo with e | ⟨i, g, e⟩
    · exact deed_redo0 B R h w hm e
    · exact deed_redo B R n b0 h i g w hm hg hn e
def dk : Dd → Nat
  | .do_ _ => 1
  | .close => 2
  | .undo => 3
  | .redo => 4
def de : Dd → Ed
  | .do_ e => e
  | _ => ⟨0, 0, ⟨#[]⟩⟩
theorem ddv_agg (d : Dd) : ddv d = .agg #[.int .i64 (dk d : Int), .int .i64 ((de d).p : Int), .int .i64 ((de d).c : Int), .string (de d).put] := by cases d <;> rfl
def ddc (d : Dd) : List Value := [.int .i64 (dk d : Int), .int .i64 ((de d).p : Int), .int .i64 ((de d).c : Int), .string (de d).put]
theorem ddc_len (d : Dd) : (ddc d).length = 4 := rfl
theorem ddc_one (d : Dd) : ∀ u ∈ ddc d, u.oneCell' = true := by intro u hu; simp [ddc] at hu; rcases hu with rfl | rfl | rfl | rfl <;> rfl
/-- A list of deeds that may be read. -/
def DRow (w : World) (v : Value) (ds : List Dd) : Prop := ∃ A cap, v = .slice A ds.length cap ∧ ds.length ≤ cap ∧ cap ≤ maxLen ∧ Reads w w.heap.size 4 A ds.length (cellsOf ddc ds)
theorem DRow.later {w w' : World} {v : Value} {ds : List Dd} (h : DRow w v ds) (hb : Below w.heap.size w w') : DRow w' v ds := by
  obtain ⟨A, c, hv, h1, h2, h3⟩ := h
  exact ⟨A, c, hv, h1, h2, (h3.below hb).more hb.size⟩
theorem DRow.of_own {w : World} {base : Nat} {e : TypeId} {v : Value} {ds : List Dd} (h : w.ownsRow base e 4 v ds.length (cellsOf ddc ds)) : DRow w v ds := by
  obtain ⟨A, c, rfl, h1, h2⟩ := own_slice h
  exact ⟨A, c, rfl, h1, h2, Reads.of_own h⟩
theorem DRow.at_ {w : World} {B : Nat} {A : Option Addr} {ds : List Dd} (h : Reads w B 4 A ds.length (cellsOf ddc ds)) {i : Nat} (hi : i < ds.length) :
    ∃ b o, A = some ⟨b, o, none⟩ ∧ b < B ∧ w.cell? ⟨b, o + i * 4, none⟩ = some (.int .i64 (dk ds[i] : Int)) ∧ w.cell? ⟨b, o + i * 4 + 1, none⟩ = some (.int .i64 ((de ds[i]).p : Int)) ∧
      w.cell? ⟨b, o + i * 4 + 2, none⟩ = some (.int .i64 ((de ds[i]).c : Int)) ∧ w.cell? ⟨b, o + i * 4 + 3, none⟩ = some (.string (de ds[i]).put) := by
  obtain ⟨b, o, rfl, hb, hc⟩ := h.plain (by omega) (by omega)
  have hx : ∀ j u, (ddc ds[i])[j]? = some u → (cellsOf ddc ds)[i * 4 + j]? = some u := by
    intro j u hu
    have hj : j < 4 := (List.getElem?_eq_some_iff.1 hu).1
    rw [cellsOf_at ddc_len ds i hi j hj]; exact hu
  have h0 := hc _ _ (hx 0 _ rfl)
  have h1 := hc _ _ (hx 1 _ rfl)
  have h2 := hc _ _ (hx 2 _ rfl)
  have h3 := hc _ _ (hx 3 _ rfl)
  exact ⟨b, o, rfl, hb, h0, by rw [Nat.add_assoc]; exact h1, by rw [Nat.add_assoc]; exact h2, by rw [Nat.add_assoc]; exact h3⟩
/-- Something else has grown. -/
theorem HM.other {w w' : World} {B R : Nat} {h : Hs} {row : Option Nat} (hm : HM w B R h) (hg : w.grownBy w' row) (hr : row = none ∨ ∃ g t cs, row = some g ∧ Blk w g t cs ∧ t ≠ 34 ∧ t ≠ 173 ∧ t ≠ 153) : HM w' B R h := by
  obtain ⟨M, vu, vr, us, rs, h1, h2, h3⟩ := hm
  refine ⟨M, vu, vr, us, rs, h1.kept hg ?_ ?_ ?_ ?_, h2, h3⟩
  · rcases hr with rfl | ⟨g, t, cs, rfl, hb, a, b, c⟩
    · simp
    · intro e; injection e with e; exact Blk.ne_ h1.hist hb (Ne.symm c) e
  · rcases hr with rfl | ⟨g, t, cs, rfl, hb, a, b, c⟩
    · cases offBlock vu <;> simp
    · exact .inr (off_blk_ne h1.un hb (Ne.symm b))
  · rcases hr with rfl | ⟨g, t, cs, rfl, hb, a, b, c⟩
    · cases offBlock vr <;> simp
    · exact .inr (off_blk_ne h1.re hb (Ne.symm b))
  · rcases hr with rfl | ⟨g, t, cs, rfl, hb, a, b, c⟩
    · exact .inl rfl
    · exact .inr ⟨g, t, cs, rfl, hb, a⟩
theorem own_tk {w w' : World} {base size n : Nat} {e : TypeId} {v : Value} {xs : List Value} (h : w.ownsRow base e size v n xs) (hk : TK w w') (h1 : e ≠ 34) (h2 : e ≠ 173) (h3 : e ≠ 153) : w'.ownsRow base e size v n xs := by
  refine ⟨h.1, ?_⟩
  rcases h.2 with hn | ⟨g, cap, cur, rfl, hb, hh, rest⟩
  · exact .inl hn
  · exact .inr ⟨g, cap, cur, rfl, hb, hk _ _ _ _ hh h1 h2 h3, rest⟩
theorem own_where {w : World} {base : Nat} {e : TypeId} {size n : Nat} {v : Value} {xs : List Value} (h : w.ownsRow base e size v n xs) : v.ownBlock = none ∨ ∃ g cs, v.ownBlock = some g ∧ Blk w g e cs := by
  rcases h.2 with ⟨rfl, rfl⟩ | ⟨g, cap, cur, rfl, hb, hh, _⟩
  · exact .inl rfl
  · exact .inr ⟨g, cur, rfl, hh⟩
theorem own_own_ne {w : World} {b1 b2 s1 s2 n1 n2 : Nat} {e1 e2 : TypeId} {v1 v2 : Value} {x1 x2 : List Value} (h : w.ownsRow b1 e1 s1 v1 n1 x1) (k : w.ownsRow b2 e2 s2 v2 n2 x2) (hne : e1 ≠ e2) : v1.ownBlock = none ∨ v1.ownBlock ≠ v2.ownBlock := by
  rcases own_where k with h0 | ⟨g, cs, h0, hb⟩
  · cases h1 : v1.ownBlock with
    | none => exact .inl rfl
    | some g => right; rw [h0]; simp
  · right; rw [h0]; exact own_blk_ne h hb hne
end Go.Proofs.Ytegobmlbldabbaa
