/-
  The walk of find.machine.
-/
import Derived.Test.YtacjckocjngfoaaMchL
import Derived.Test.YtacjckocjngfoaaOrdC
import Derived.BigQuiet
import Derived.Deep.QuietTactic
import Derived.StillTailTactics
import Derived.Deep.DeepCutAuto
namespace Go.Proofs.Ytacjckocjngfoaa
open Go.RowKit Go.WideMaps Go.Maps Go.ChangeShapes Go.ChangeMaps
set_option linter.unusedVariables false
set_option linter.unusedSimpArgs false

/-- The machine whole. -/
structure Built (w W : World) (fs : List ByteArray) (n : Nat) (l : List (List UInt8)) (S M : List UInt8 → Nat) (fd : List UInt8 → Int) (bk : List UInt8 → Value) : Prop where
  m : Mch W w.heap.size n l S M fd bk
  t : Trie l
  fin : ∀ j (h : j < fs.length), fs[j].data.toList ∈ l ∧ fd fs[j].data.toList = (j : Int)
  fd_ : ∀ u ∈ l, fd u = -1 ∨ ∃ j, ∃ h : j < fs.length, fd u = (j : Int) ∧ fs[j].data.toList = u
  len : ∀ u ∈ l, u.length ≤ 10
  back : ∀ u ∈ l, bk u = .pointer (some ⟨S (psuf l u), 0, none⟩)
  b : Below w.heap.size w W
def MachPost (fs : List ByteArray) (w : World) (e : Ending) (w' : World) : Prop :=
  ∃ n l S M fd bk, e = .returned (.pointer (some ⟨S [], 0, none⟩)) ∧ Built w w' fs n l S M fd bk
theorem fresh_two (W : World) (x : Int) : Below W.heap.size W ((W.alloc (.map #[] 0)).alloc (.cells #[.map (some W.heap.size), .pointer none, .int .i64 (-1), .int .i64 x] 46)) ∧ MapAt ((W.alloc (.map #[] 0)).alloc (.cells #[.map (some W.heap.size), .pointer none, .int .i64 (-1), .int .i64 x] 46)) W.heap.size 0 (fun _ => none) ∧
    Blk ((W.alloc (.map #[] 0)).alloc (.cells #[.map (some W.heap.size), .pointer none, .int .i64 (-1), .int .i64 x] 46)) (W.heap.size + 1) 46 #[.map (some W.heap.size), .pointer none, .int .i64 (-1), .int .i64 x] := by
  have b1 : Below W.heap.size W (W.alloc (.map #[] 0)) := (Below.refl _ _).alloc (Nat.le_refl _) _
  have k2 := Blk.new (W.alloc (.map #[] 0)) 46 #[.map (some W.heap.size), .pointer none, .int .i64 (-1), .int .i64 x]
  have es : (W.alloc (.map #[] 0)).heap.size = W.heap.size + 1 := by simp
  rw [es] at k2
  exact ⟨b1.alloc b1.size _, (MapAt.made W).kept (World.grownBy_alloc _ _ none) (by simp), k2⟩
set_option maxRecDepth 100000 in
set_option maxHeartbeats 8000000 in
theorem machine_any (v : Value) (fs : List ByteArray) (w : World) (hr : SRow w v fs) (hl : fs.length ≤ 8) (hs : ∀ s ∈ fs, s.size ≤ 10) (hd : fs.Nodup) :
    Calls Try.prog 14 #[v] w (MachPost fs w) := by
  obtain ⟨A, c, rfl, hc1, hc2, hrd⟩ := hr
  have HRD := Lib.hid hrd
  have HS := Lib.hid hs
  have HD := Lib.hid hd
  have B0 := Lib.hid (Bld.start w fs)
  clear hrd hs hd
  have hmm := @run_makeMap Try.prog
  go_enter Try.func14, Try.ntmps14
  go_wp2_with fail
  go_loopw [25] (fun vi W => ∃ (i n : Nat) (l : List (List UInt8)) (S M : List UInt8 → Nat) (fd : List UInt8 → Int) (bk : List UInt8 → Value), i ≤ fs.length ∧ vi = .int .i64 (i : Int) ∧ Bld w W (w.heap.size + 1) fs i n l S M fd bk ∧ l.length ≤ 1 + 10 * i) (fun vi _ => fs.length - (intOf vi).toNat)
  case atStart => exact ⟨0, 0, _, _, _, _, _, Nat.zero_le _, rfl, B0.out, by simp⟩
  case round =>
    obtain ⟨i, n, l, S, M, fd, bk, hi, rfl, hb, hll⟩ := hrel
    have HB := Lib.hid hb
    clear hb B0
    rcases Nat.lt_or_ge i fs.length with hlt | hge
    · have k1 : (i : Int) < (fs.length : Int) := by omega
      have k2 : (0 : Int) ≤ (i : Int) := by omega
      have hcell := SRow.at_ (HRD.out.below HB.out.b) hlt
      have hsz := HS.out fs[i] (List.getElem_mem hlt)
      have hdis : ∀ j (hj : j < fs.length), j < i → fs[j].data.toList ≠ fs[i].data.toList := fun j hj hji e => by
        have := List.pairwise_iff_getElem.1 HD.out j i hj hlt hji
        exact this (ByteArray.ext (Array.toList_inj.1 e))
      have FND := Lib.hid (fun W n l S M fd bk (h : Bld w W (w.heap.size + 1) fs i n l S M fd bk) (hu : fs[i].data.toList ∈ l) => h.find hlt hu hdis)
      clear hdis
      generalize fs[i] = s at *
      obtain ⟨b, o, rfl, hb1, hc0⟩ := hcell
      go_wp2_with fail
      go_loopw [6, 33] (fun va vk W => ∃ (k n : Nat) (l : List (List UInt8)) (S M : List UInt8 → Nat) (fd : List UInt8 → Int) (bk : List UInt8 → Value), k ≤ s.size ∧ vk = .int .i64 (k : Int) ∧ va = .pointer (some ⟨S (s.data.toList.take k), 0, none⟩) ∧ s.data.toList.take k ∈ l ∧ Bld w W (w.heap.size + 1) fs i n l S M fd bk ∧ l.length ≤ 1 + 10 * i + k) (fun _ vk _ => s.size - (intOf vk).toNat)
      case atStart =>
        have hR := HB.out.root
        exact ⟨0, n, l, S, M, fd, bk, Nat.zero_le _, rfl, by rw [← hR]; rfl, HB.out.t.nil, HB.out, by omega⟩
      case round =>
        clear HB hll hc0
        obtain ⟨k, n, l, S, M, fd, bk, hk, rfl, rfl, hu, hb, hll⟩ := hrel
        have HB := Lib.hid hb
        clear hb
        rcases Nat.lt_or_ge k s.size with hkl | hkg
        · have j1 : (k : Int) < (s.size : Int) := by omega
          have j2 : (0 : Int) ≤ (k : Int) := by omega
          have HTK := Lib.hid (take_snoc s k hkl)
          have hsl : s.data.toList.length = s.size := by simp
          have hul : (s.data.toList.take k).length = k := by rw [List.length_take]; omega
          generalize s.data.toList.take k = u at *
          have c0 : wr.cell? ⟨S u, 0, none⟩ = some (.map (some (M u))) := by rw [(HB.out.m.blk u hu).cell 0]; rfl
          have c3 : wr.cell? ⟨S u, 3, none⟩ = some (.int .i64 (u.length : Int)) := by rw [(HB.out.m.blk u hu).cell 3]; rfl
          by_cases hm : u ++ [s[k]] ∈ l
          · have lk : ∀ q, (Instr.lookup 44 (.map (some (M u))) (.int .u8 (s[k].toNat : Int)) true).run Try.prog (wr.drewN q) = .ok (.tuple #[.pointer (some ⟨S (u ++ [s[k]]), 0, none⟩), .bool true]) (wr.drewN q) := fun q => by
              have := ((HB.out.m.mp u hu).same (W' := wr.drewN q) rfl).look s[k]
              rw [if_pos hm] at this
              exact this
            go_wp2_with fail
            go_quiet (fail)
            have HB2 := Lib.hid (HB.out.drewN nq)
            clear HB c0 c3 lk
            generalize wr.drewN nq = W1 at *
            go_wp2_with fail
            exact ⟨⟨k + 1, n, l, S, M, fd, bk, hkl, by go_num, by rw [HTK.out], by rw [HTK.out]; exact hm, HB2.out, by omega⟩, by simp [intOf]; omega⟩
          · have lk : ∀ q, (Instr.lookup 44 (.map (some (M u))) (.int .u8 (s[k].toNat : Int)) true).run Try.prog (wr.drewN q) = .ok (.tuple #[.pointer none, .bool false]) (wr.drewN q) := fun q => by
              have := ((HB.out.m.mp u hu).same (W' := wr.drewN q) rfl).look s[k]
              rw [if_neg hm] at this
              exact this
            go_wp2_with fail
            go_quiet (fail)
            have HB2 := Lib.hid (HB.out.drewN nq)
            clear HB c0 c3 lk
            generalize wr.drewN nq = W1 at *
            have c3 : W1.cell? ⟨S u, 3, none⟩ = some (.int .i64 (u.length : Int)) := by rw [(HB2.out.m.blk u hu).cell 3]; rfl
            have k3 : (u.length : Int) + 1 ≤ 9223372036854775807 := by omega
            have hslt := (HB2.out.m.lt hu).1
            have c3' : (W1.alloc (.map #[] 0)).cell? ⟨S u, 3, none⟩ = some (.int .i64 (u.length : Int)) := (World.cell?_alloc_lt _ _ _ hslt).trans c3
            clear c3
            go_wp2_with fail
            have hfr := Lib.hid (fresh_two W1 ((k : Int) + 1))
            generalize (W1.alloc (.map #[] 0)).alloc (.cells #[.map (some W1.heap.size), .pointer none, .int .i64 (-1), .int .i64 ((k : Int) + 1)] 46) = W2 at *
            have e0 : W2.cell? ⟨S u, 0, none⟩ = some (.map (some (M u))) := by rw [((HB2.out.m.later hfr.out.1).blk u hu).cell 0]; rfl
            obtain ⟨D, hown, hD⟩ := (HB2.out.m.later hfr.out.1).mp u hu
            have HOWN := Lib.hid hown
            have HDD := Lib.hid hD
            clear c3' hown hD
            refine wp_region_still_tail 8 (by kernel_rfl) (by kernel_rfl) ?_
            change wpStill _ _ W2.drew _ _ _
            simp only [List.take_succ_cons, List.take_zero, List.drop_succ_cons, List.drop_zero]
            have e1 : W2.drew.cell? ⟨S u, 0, none⟩ = some (.map (some (M u))) := e0
            generalize hW3 : W2.drew = W3 at *
            iterate 8 still_step
            refine wpStill_nil ?_
            change wpList _ _ _ _ _ W2.drew
            rw [hW3]
            have HO3 : Hid (W3.ownsMap Try.prog 5 HV (M u) n D) := Lib.hid (hW3 ▸ HOWN.out.drew)
            have hf1 : Below W1.heap.size W1 W3 := hW3 ▸ hfr.out.1.drew
            have hf2 : MapAt W3 W1.heap.size 0 (fun _ => none) := hW3 ▸ hfr.out.2.1.same rfl
            have hf3 : Blk W3 (W1.heap.size + 1) 46 #[.map (some W1.heap.size), .pointer none, .int .i64 (-1), .int .i64 ((k : Int) + 1)] := hW3 ▸ hfr.out.2.2.drew
            have hn9 : n < maxLen := by have := HB2.out.nb; unfold maxLen; omega
            have HF := Lib.hid (And.intro hf1 (And.intro hf2 hf3))
            clear hW3 e0 e1 HOWN hfr hf1 hf2 hf3
            go_wp2_with (at_mapUpdate; refine wpList_mapUpdate_own _ rfl _ _ _ 44 rfl 5 41 byte_law Try.underlying44 HV (M u) n D rfl HO3.out hn9 _ _ (.int .u8 (s[k].toNat : Int)) rfl rfl (byte_key s[k]) (.held (pS (W1.heap.size + 1))) [] rfl ?_)
            intro w4 hown4 hg4
            have hmu := MapAt.put_ (c := s[k]) (s := W1.heap.size + 1) HDD.out HO3.out.isMap hown4
            have hb4 := HB2.out.add hu hm (by omega) (Nat.le_refl _) (Nat.le_succ _) (by omega) HF.out.1 HF.out.2.1 (by rw [hul]; exact HF.out.2.2) hg4 hmu
            have HB4 := Lib.hid hb4
            clear hb4 hmu hown4 hg4 HF HO3 HDD HB2
            go_wp2_with fail
            refine ⟨⟨k + 1, n + 1, _, _, _, _, _, hkl, by go_num, by rw [HTK.out, upd_self], by rw [HTK.out]; simp, HB4.out, by rw [List.length_append]; simp; omega⟩, by simp [intOf]; omega⟩
        · have j1 : decide ((k : Int) < (s.size : Int)) = false := decide_eq_false (by omega)
          have htk : s.data.toList.take k = s.data.toList := List.take_of_length_le (by have : s.data.toList.length = s.size := by simp
                                                                                        omega)
          rw [htk] at hu ⊢
          have HF := Lib.hid (FND.out wr n l S M fd bk HB.out hu)
          have c2 : ∃ x, wr.cell? ⟨S s.data.toList, 2, none⟩ = some x := ⟨_, (HB.out.m.blk _ hu).cell 2⟩
          have f2 := (HB.out.m.blk _ hu).frozen 2
          obtain ⟨x2, c2⟩ := c2
          clear HB htk FND
          go_wp2_with fail
          exact ⟨⟨i + 1, n, l, S, M, _, bk, hlt, by go_num, HF.out, by omega⟩, by simp [intOf]; omega⟩
    · have k1 : decide ((i : Int) < (fs.length : Int)) = false := decide_eq_false (by omega)
      obtain rfl : i = fs.length := by omega
      have HB2 := Lib.hid HB.out
      have hslit := Lib.hid (World.ownsRow_lit (base := wr.heap.size) (e := 41) (size := 1) wr #[sp S []] 1 (Nat.le_refl _) (by decide) rfl)
      go_wp2_with fail
      have L0 : Hid (Lv w (wr.alloc (.cells #[.pointer (some ⟨w.heap.size + 1, 0, none⟩)] 41)) wr.heap.size (wr.heap.size + 1) n l S M fd (.slice (some ⟨wr.heap.size, 0, none⟩) 1 1) [[]] 0 (.slice none 0 0) [] bk) := Lib.hid (by
        have hal := World.grownBy_alloc wr (.cells #[.pointer (some ⟨w.heap.size + 1, 0, none⟩)] 41) none
        have hR := HB2.out.root
        refine ⟨HB2.out.m.kept hal (by simp), fun u hu => HB2.out.m.lt hu, Nat.le_succ _, ?_, fun g hg => ?_, World.ownsRow_nil _ _ _ _, by simp, fun v hv hv0 => ?_, by simp, HB2.out.b.alloc HB2.out.b.size _, HB2.out.b.size⟩
        · have := hslit.out
          rw [← hR]
          exact this
        · simp [Value.ownBlock] at hg; omega
        · obtain rfl := List.length_eq_zero_iff.1 (Nat.le_zero.1 hv0)
          rw [HB2.out.bk0, ← hR]; rfl)
      have HBF := Lib.hid (And.intro HB2.out.t (And.intro HB2.out.fin (And.intro HB2.out.fd_ HB2.out.len)))
      have HLV0 := Lib.hid (Lvl.start HB2.out.t)
      have HROOT := Lib.hid HB2.out.root
      have hll2 : l.length ≤ 81 := by omega
      have hnl : n ≤ 81 := by have := HB2.out.nb; omega
      obtain ⟨base, hbase⟩ : ∃ base, wr.heap.size = base := ⟨_, rfl⟩
      rw [hbase] at L0
      clear hslit HB HB2 hll k1 hmm HRD
      rw [hbase]
      generalize wr.alloc (.cells #[.pointer (some ⟨w.heap.size + 1, 0, none⟩)] 41) = W0 at *
      clear hbase
      go_loopw [10] (fun lv W => ∃ (ws : List (List UInt8)) (d base2 : Nat) (bk : List UInt8 → Value), Lv w W base base2 n l S M fd lv ws d (.slice none 0 0) [] bk ∧ Lvl l ws d) (fun lv W => 12 - lvl W lv)
      case atStart => exact ⟨[[]], 0, _, bk, L0.out, HLV0.out⟩
      case round =>
        clear L0 HLV0
        obtain ⟨ws, d, base2, bk, hlv, hlw⟩ := hrel
        have HLV := Lib.hid hlv
        have HLW := Lib.hid hlw
        clear hlv hlw
        obtain ⟨Al, cl, rfl, hcl1, hcl2⟩ := own_slice HLV.out.lo
        rcases Nat.eq_zero_or_pos ws.length with hz | hz
        · rw [hz]
          have HEND := Lib.hid (fun v hv => HLV.out.back v hv (Nat.le_of_lt ((List.eq_nil_of_length_eq_zero hz ▸ HLW.out : Lvl l [] d).end_ HBF.out.1 v hv)))
          go_wp2_with fail
          go_ret
          refine ⟨n, l, S, M, fd, bk, by rw [HROOT.out]; rfl, ⟨HLV.out.m, HBF.out.1, fun j hj => HBF.out.2.1 j hj hj, fun u hu => ?_, HBF.out.2.2.2, HEND.out, HLV.out.b⟩⟩
          rcases HBF.out.2.2.1 u hu with h | ⟨j, h1, _, h3⟩
          · exact .inl h
          · exact .inr ⟨j, h1, h3⟩
        · have k1 : (0 : Int) < (ws.length : Int) := by omega
          have HLE : Hid (lvl wr (.slice Al ws.length cl) = d ∧ d ≤ 10) := Lib.hid (by
            rcases HLV.out.lvl_eq HLW.out with ⟨h, _⟩ | ⟨_, h⟩
            · omega
            · have hm := (HLW.out.mem ws[0]).1 (List.getElem_mem hz)
              have := HBF.out.2.2.2 _ hm.1
              exact ⟨h, by omega⟩)
          go_wp2_with fail
          go_loopw [11, 79] (fun bv vj W => ∃ (j : Nat) (bs : List (List UInt8)) (bk : List UInt8 → Value), j ≤ ws.length ∧ vj = .int .i64 (j : Int) ∧ Lv w W base base2 n l S M fd (.slice Al ws.length cl) ws d bv bs bk ∧ Got l ws bs j) (fun _ vj _ => ws.length - (intOf vj).toNat)
          case atStart => exact ⟨0, [], bk, Nat.zero_le _, rfl, HLV.out, Got.start _ _⟩
          case round =>
            clear HLV
            obtain ⟨j, bs, bk, hj, rfl, hlv, hgo⟩ := hrel
            have HLV := Lib.hid hlv
            have HGO := Lib.hid hgo
            clear hlv hgo
            rcases Nat.lt_or_ge j ws.length with hjl | hjg
            · have j1 : (j : Int) < (ws.length : Int) := by omega
              have j2 : (0 : Int) ≤ (j : Int) := by omega
              obtain ⟨gl, cap, ev, hcell, _, _⟩ := own1_at (v := .slice Al ws.length cl) (xs := ws.map (sp S)) (by simpa using HLV.out.lo) (j := j) (by simpa using hjl)
              injection ev with ev1 ev2 ev3
              subst ev1
              clear ev2 ev3
              rw [List.getElem_map] at hcell
              have hul := (HLW.out.mem ws[j]).1 (List.getElem_mem hjl)
              have HNT := Lib.hid (not_take HLW.out.nd hjl)
              have HDN := Lib.hid (fun bs left (h : Gat l ws bs j ws[j] left) => h.done hjl)
              generalize ws[j] = u at *
              have hcell' : wr.cell? ⟨gl, j, none⟩ = some (.pointer (some ⟨S u, 0, none⟩)) := hcell
              obtain ⟨hu, hud⟩ := hul
              have c0 : wr.cell? ⟨S u, 0, none⟩ = some (.map (some (M u))) := by rw [(HLV.out.m.blk u hu).cell 0]; rfl
              obtain ⟨D, hown, hD⟩ := HLV.out.m.mp u hu
              have HDD := Lib.hid hD
              have HOWN := Lib.hid hown
              clear hcell hD hown
              go_wp2_with (first | (at_range; refine wpList_range_own _ rfl _ 44 rfl 5 41 byte_law Try.underlying44 HV (M u) n D rfl HOWN.out ?_; intro w8 hrg8 hg8 hs8) | go_in)
              have HL8 := Lib.hid (HLV.out.grown hg8 (by simp))
              have HG8 := Lib.hid (HGO.out.gat u (left := has D) (fun c => by have := (HDD.out c).2; show has D (.int .u8 (c.toNat : Int)) = _; rw [this]; by_cases h : u ++ [c] ∈ l <;> simp [h]))
              have HR8 := Lib.hid hrg8
              obtain ⟨r, hr⟩ : ∃ r, wr.heap.size = r := ⟨_, rfl⟩
              have hrb : base2 ≤ r := by have := HLV.out.sz; omega
              clear hg8 hs8 hrg8 HOWN c0 hcell'
              have hwl : ws.length ≤ 81 := Nat.le_trans HLW.out.len hll2
              have HNB : Hid (u11.ownBlock ≠ some r) := Lib.hid (fun e => by have := (HLV.out.ro.lt _ e).2; omega)
              rw [hr]
              rw [hr] at HR8
              have hdl : u.length ≤ 10 := HBF.out.2.2.2 u hu
              clear HLV HGO hr
              go_loopw [11] (fun bv W => ∃ (bs : List (List UInt8)) (bk : List UInt8 → Value) (left : Lit → Bool) (cnt : Nat), W.ranges Try.prog 5 HV (M u) r n D left cnt ∧ Lv w W base base2 n l S M fd (.slice (some ⟨gl, 0, none⟩) ws.length cl) ws d bv bs bk ∧ Gat l ws bs j u left ∧ bv.ownBlock ≠ some r) (fun _ W => W.rangeLeft (M u) r)
              case atStart => exact ⟨bs, bk, _, _, HR8.out, HL8.out, HG8.out, HNB.out⟩
              case round =>
                clear HR8 HL8 HG8 HNB
                obtain ⟨bs, bk, left, cnt, hrg, hlv, hga, hnb⟩ := hrel
                have HRG := Lib.hid hrg
                have HLV := Lib.hid hlv
                have HGA := Lib.hid hga
                have HNB := Lib.hid hnb
                clear hrg hlv hga hnb
                go_wp2_with (at_next; refine wpList_next_ranges _ rfl _ rfl 5 byte_law HV (fun v => v) (fun v => v) (fun key kl _ => ⟨key, rfl⟩) (fun v y _ => ⟨v, rfl⟩) (M u) r n D left cnt rfl HRG.out ?_ ?_)
                · intro hc0 hl0
                  have HG9 := Lib.hid (HDN.out _ _ HGA.out hl0)
                  clear hc0 hl0
                  go_wp2_with fail
                  exact ⟨⟨j + 1, bs, bk, hjl, by go_num, HLV.out, HG9.out⟩, by simp [intOf]; omega⟩
                · intro kx vx kl y1 y2 w9 cnt9 hk9 hlk9 hR9 hat9 hrg9 hlt9 hg9 hs9 hen9
                  obtain ⟨c8, s8, rfl, rfl, hs8, rfl⟩ := pick8 (y := (y1, y2)) HDD.out hk9 hR9 hat9
                  obtain ⟨hm, rfl⟩ : u ++ [c8] ∈ l ∧ S (u ++ [c8]) = s8 := by
                    by_cases h : u ++ [c8] ∈ l
                    · simp only [if_pos h] at hs8
                      exact ⟨h, Option.some.inj hs8⟩
                    · simp only [if_neg h] at hs8
                      cases hs8
                  have hlv9 := HLV.out.grown hg9 (fun q hq => by have := Option.some.inj hq; exact ⟨by omega, fun e => HNB.out (by rw [e, this])⟩)
                  have HNX := Lib.hid (HGA.out.not_in HNT.out hlk9)
                  have HGX := Lib.hid (HGA.out.step HNT.out hlk9 hm)
                  have hxd : d < (u ++ [c8]).length := by rw [List.length_append, hud]; simp
                  have g1 : w9.cell? ⟨S (u ++ [c8]), 1, none⟩ = some (bk (u ++ [c8])) := by rw [(hlv9.m.blk _ hm).cell 1]; rfl
                  have f1 := (hlv9.m.blk _ hm).frozen 1
                  have hset := hlv9.setBack hm hxd HNX.out (.pointer (some ⟨w.heap.size + 1, 0, none⟩))
                  have hrg1 := hrg9.kept (grown_set w9 ⟨S (u ++ [c8]), 1, none⟩ (.pointer (some ⟨w.heap.size + 1, 0, none⟩))) (fun e => hlv9.m.sm hm hu (Option.some.inj e).symm) (fun e => by have := Option.some.inj e; have := hlv9.sm _ hm; have := hlv9.le; simp at *; omega)
                  have HL1 := Lib.hid hset
                  have HR1 := Lib.hid hrg1
                  clear hlv9 hset hrg1 hrg9 hg9 hs9 hs8 hat9 hR9 hk9 hlk9
                  go_upto_region 28 with fail
                  clear g1 f1 hen9
                  generalize w9.setCell ⟨S (u ++ [c8]), 1, none⟩ (.pointer (some ⟨w.heap.size + 1, 0, none⟩)) = W1 at *
                  rcases Decidable.em (u = []) with hu0 | hu0
                  · have hsu : S u = w.heap.size + 1 := by rw [hu0]; exact HROOT.out
                    have hp : (binOp .neq 41 (.pointer (some ⟨S u, 0, none⟩)) (.pointer (some ⟨w.heap.size + 1, 0, none⟩))).run Try.prog W1 = .ok (.bool false) W1 := by rw [hsu]; exact ptr_same2 _ _
                    have HBK := Lib.hid (show Value.pointer (some ⟨w.heap.size + 1, 0, none⟩) = sp S (psuf l (u ++ [c8])) by
                      rw [hu0]
                      show _ = Value.pointer (some ⟨S [], 0, none⟩)
                      rw [HROOT.out])
                    clear hsu hu0
                    go_upto_region 30 with fail
                    clear hp
                    have hlx := HGX.out.len
                    have hxl : bs.length + 1 ≤ 81 := by rw [List.length_append] at hlx; simp at hlx; omega
                    have halW1 := World.grownBy_alloc W1 (.cells #[.pointer (some ⟨S (u ++ [c8]), 0, none⟩)] 41) none
                    have hl1 := HL1.out.grown halW1 (by simp)
                    have hr1 := HR1.out.kept halW1 (by simp) (by simp)
                    have hrd1 := Reads.new W1 [.pointer (some ⟨S (u ++ [c8]), 0, none⟩)] 41 1 rfl
                    have hsz1 := HL1.out.sz
                    have hrlt := HR1.out.lt
                    have HLP := Lib.hid hl1
                    have HRP := Lib.hid hr1
                    clear halW1 hl1 hr1
                    go_wp2_with (at_builtin; refine wpList_append_w rfl _ _ 60 rfl base2 41 _ 1 8 Try.underlying60 ptr_info rfl (by decide) u11 bs.length (bs.map (sp S)) rfl HLP.out.ro _ (some ⟨W1.heap.size, 0, none⟩) 1 1 [.pointer (some ⟨S (u ++ [c8]), 0, none⟩)] rfl hrd1 (by simp [Value.oneCell']) (by unfold maxLen; omega) (by omega) HLP.out.sz ?_)
                    intro v3 w3 ho3 hg3 hat3
                    have HLZ := Lib.hid (HLP.out.push (x := u ++ [c8]) (bv' := v3) (W' := w3) (by rw [List.length_append, List.map_append]; exact ho3) hg3 (by rw [if_pos rfl]; exact HBK.out))
                    have hnb3 : v3.ownBlock ≠ some r := fun e => by
                      rcases hat3 with h | h
                      · exact HNB.out (h.symm.trans e)
                      · rw [h] at e; have := Option.some.inj e; try simp at this
                        omega
                    have hr3 := HRP.out.kept hg3 (fun e => by have := (HLP.out.ro.lt _ e.symm).1; have := HLP.out.sm u hu; have := HLP.out.le; omega) (fun e => HNB.out e.symm)
                    have HRZ := Lib.hid hr3
                    have HNBZ := Lib.hid hnb3
                    clear ho3 hg3 hat3 hnb3 hr3 HLP HRP hrd1
                    go_wp2_with fail
                    refine ⟨⟨bs ++ [u ++ [c8]], _, _, cnt9, HRZ.out, HLZ.out, HGX.out, HNBZ.out⟩, ?_⟩
                    rw [HRZ.out.left_eq, HRG.out.left_eq]
                    exact hlt9
                  · have hne : S u ≠ S [] := (HL1.out.m.inj u hu [] HBF.out.1.nil hu0).1
                    have hp : (binOp .neq 41 (.pointer (some ⟨S u, 0, none⟩)) (.pointer (some ⟨w.heap.size + 1, 0, none⟩))).run Try.prog W1 = .ok (.bool true) W1 := by rw [← HROOT.out]; exact ptr_other2 (HL1.out.m.blk u hu) (HL1.out.m.blk [] HBF.out.1.nil) hne
                    have hbu := HL1.out.back u hu (by omega)
                    have c1u : W1.cell? ⟨S u, 1, none⟩ = some (.pointer (some ⟨S (psuf l u), 0, none⟩)) := by rw [(HL1.out.m.blk u hu).cell 1]; exact congrArg some hbu
                    have hpl := psuf_len l hu0
                    have ST := Lib.hid (step_any W1 w.heap.size n l S M fd _ HL1.out.m HBF.out.1 (psuf l u) (lsuf_mem HBF.out.1.nil _) c8 (fun v hv hvl => HL1.out.back v hv (by omega)))
                    have HPS := Lib.hid (psuf_snoc HBF.out.1 c8 hu0)
                    have g1 : ∃ z, W1.cell? ⟨S (u ++ [c8]), 1, none⟩ = some z := ⟨_, (HL1.out.m.blk _ hm).cell 1⟩
                    obtain ⟨z1, g1⟩ := g1
                    have f1 := (HL1.out.m.blk _ hm).frozen 1
                    have HL2 := Lib.hid (HL1.out.setBack hm hxd HNX.out (.pointer (some ⟨S (lsuf l (psuf l u ++ [c8])), 0, none⟩)))
                    have HR2 := Lib.hid (HR1.out.kept (grown_set W1 ⟨S (u ++ [c8]), 1, none⟩ (.pointer (some ⟨S (lsuf l (psuf l u ++ [c8])), 0, none⟩))) (fun e => HL1.out.m.sm hm hu (Option.some.inj e).symm) (fun e => by have := Option.some.inj e; have := HL1.out.sm _ hm; have := HL1.out.le; simp at *; omega))
                    clear hbu hpl hne HL1 HR1 hu0
                    go_wp2_with fail
                    refine ST.out.mono ?_
                    rintro e w1 ⟨rfl, rfl⟩
                    go_upto_region 30 with fail
                    clear g1 f1 c1u hp ST
                    generalize w1.setCell ⟨S (u ++ [c8]), 1, none⟩ (.pointer (some ⟨S (lsuf l (psuf l u ++ [c8])), 0, none⟩)) = W2 at *
                    have hlx := HGX.out.len
                    have hxl : bs.length + 1 ≤ 81 := by rw [List.length_append] at hlx; simp at hlx; omega
                    have halW2 := World.grownBy_alloc W2 (.cells #[.pointer (some ⟨S (u ++ [c8]), 0, none⟩)] 41) none
                    have hl1 := HL2.out.grown halW2 (by simp)
                    have hr1 := HR2.out.kept halW2 (by simp) (by simp)
                    have hrd1 := Reads.new W2 [.pointer (some ⟨S (u ++ [c8]), 0, none⟩)] 41 1 rfl
                    have hsz1 := HL2.out.sz
                    have hrlt := HR2.out.lt
                    have HLP := Lib.hid hl1
                    have HRP := Lib.hid hr1
                    clear halW2 hl1 hr1
                    go_wp2_with (at_builtin; refine wpList_append_w rfl _ _ 60 rfl base2 41 _ 1 8 Try.underlying60 ptr_info rfl (by decide) u11 bs.length (bs.map (sp S)) rfl HLP.out.ro _ (some ⟨W2.heap.size, 0, none⟩) 1 1 [.pointer (some ⟨S (u ++ [c8]), 0, none⟩)] rfl hrd1 (by simp [Value.oneCell']) (by unfold maxLen; omega) (by omega) HLP.out.sz ?_)
                    intro v3 w3 ho3 hg3 hat3
                    have HLZ := Lib.hid (HLP.out.push (x := u ++ [c8]) (bv' := v3) (W' := w3) (by rw [List.length_append, List.map_append]; exact ho3) hg3 (by rw [if_pos rfl, HPS.out]; rfl))
                    have hnb3 : v3.ownBlock ≠ some r := fun e => by
                      rcases hat3 with h | h
                      · exact HNB.out (h.symm.trans e)
                      · rw [h] at e; have := Option.some.inj e; try simp at this
                        omega
                    have hr3 := HRP.out.kept hg3 (fun e => by have := (HLP.out.ro.lt _ e.symm).1; have := HLP.out.sm u hu; have := HLP.out.le; omega) (fun e => HNB.out e.symm)
                    have HRZ := Lib.hid hr3
                    have HNBZ := Lib.hid hnb3
                    clear ho3 hg3 hat3 hnb3 hr3 HLP HRP hrd1
                    go_wp2_with fail
                    refine ⟨⟨bs ++ [u ++ [c8]], _, _, cnt9, HRZ.out, HLZ.out, HGX.out, HNBZ.out⟩, ?_⟩
                    rw [HRZ.out.left_eq, HRG.out.left_eq]
                    exact hlt9
            · have j1 : decide ((j : Int) < (ws.length : Int)) = false := decide_eq_false (by omega)
              obtain rfl : j = ws.length := by omega
              have hlv := HGO.out.lvl HBF.out.1 HLW.out
              have HLN := Lib.hid (HLV.out.down (fun v hv hvd => (hlv.mem v).2 ⟨hv, hvd⟩))
              have HLVN := Lib.hid hlv
              go_wp2_with fail
              refine ⟨⟨bs, d + 1, _, bk, HLN.out, HLVN.out⟩, ?_⟩
              rw [HLE.out.1]
              rcases HLN.out.lvl_eq HLVN.out with ⟨_, h⟩ | ⟨_, h⟩ <;> have := HLE.out.2 <;> omega
end Go.Proofs.Ytacjckocjngfoaa
