/-
  The walks of the history's New, play and Play.
-/
import Derived.Test.YtegobmlbldabbaaHistA
namespace Go.Proofs.Ytegobmlbldabbaa
open Go.RowKit
set_option linter.unusedVariables false

def h0s (s : ByteArray) : Hs := ⟨s, [], [], false⟩
theorem str_info : (Try.prog.info? 9).map (fun i => (i.zero, i.size, i.bytes)) = some (some (.string ⟨#[]⟩), 1, 16) := by kernel_rfl
theorem errno_info : (Try.prog.info? 28).map (fun i => (i.zero, i.size, i.bytes)) = some (some (.int .i64 0), 1, 8) := by kernel_rfl
set_option maxRecDepth 100000 in
theorem new_any (s : ByteArray) (w : World) : Calls Try.prog 85 #[.string s] w fun e w' => e = .returned (.pointer (some ⟨w.heap.size, 0, none⟩)) ∧ w' = w.alloc (.cells #[.string s, .slice none 0 0, .slice none 0 0, .bool false] 153) := by
  go_enter Try.func85, Try.ntmps85
  go_wp2
  go_ret
  exact ⟨rfl, rfl⟩
def cellsI (l : List Nat) : List Value := l.map fun (n : Nat) => Value.int .i64 (n : Int)
def PlayPost (s : ByteArray) (ds : List Dd) (w : World) (e : Ending) (w' : World) : Prop :=
  ∃ R vt vc, e = .returned (.tuple #[.pointer (some ⟨R, 0, none⟩), vt, vc, .int .i64 0]) ∧ HM w' w.heap.size R (play (h0s s) ds).1 ∧ w'.ownsRow w.heap.size 9 1 vt ds.length ((play (h0s s) ds).2.1.map .string) ∧
    w'.ownsRow w.heap.size 28 1 vc ds.length (cellsI (play (h0s s) ds).2.2) ∧ Below w.heap.size w w'
theorem play_take (h : Hs) (ds : List Dd) (k : Nat) (hk : k < ds.length) : play h (ds.take (k + 1)) = ((deed (after h (ds.take k)) ds[k]).1, (play h (ds.take k)).2.1 ++ [(deed (after h (ds.take k)) ds[k]).1.text], (play h (ds.take k)).2.2 ++ [(deed (after h (ds.take k)) ds[k]).2]) := by
  rw [List.take_succ_eq_append_getElem hk, play_append]; rfl
set_option maxRecDepth 100000 in
set_option maxHeartbeats 4000000 in
theorem play_any (s : ByteArray) (v : Value) (ds : List Dd) (w : World) (hs : s.size ≤ 600) (hl : ds.length ≤ 80) (hd : ∀ d ∈ ds, dOk d) (h : DRow w v ds) :
    Calls Try.prog 58 #[.string s, v] w (PlayPost s ds w) := by
  obtain ⟨A, cap, rfl, h1, h2, hr⟩ := h
  unfold maxLen at h2
  have HNEW := Lib.hid (fun W => new_any s W)
  have HDK := Lib.hid hd
  have HG := Lib.hid (fun k => by
    obtain ⟨b', g⟩ := after_any (ds.take k) 0 s (h0s s) (Good.new s hs)
    exact (⟨b', g⟩ : ∃ b', Good (0 + (ds.take k).length) b' (after (h0s s) (ds.take k))))
  have HN := Lib.hid (HM.new w w.heap.size s (Nat.le_refl _))
  have HRD := Lib.hid hr
  clear hd hr
  go_enter Try.func58, Try.ntmps58
  go_wp2_with (
    go_at_call 85
    refine (HNEW.out _).mono ?_
    rintro e w1 ⟨rfl, rfl⟩)
  have hbn : Below w.heap.size w (w.alloc (.cells #[.string s, .slice none 0 0, .slice none 0 0, .bool false] 153)) := (Below.refl _ _).alloc (Nat.le_refl _) _
  generalize w.alloc (.cells #[.string s, .slice none 0 0, .slice none 0 0, .bool false] 153) = W at *
  go_loopw [9, 10, 27] (fun ts cs i wr => ∃ k : Nat, k ≤ ds.length ∧ i = .int .i64 k ∧ HM wr w.heap.size w.heap.size (play (h0s s) (ds.take k)).1 ∧ wr.ownsRow w.heap.size 9 1 ts k ((play (h0s s) (ds.take k)).2.1.map .string) ∧
    wr.ownsRow w.heap.size 28 1 cs k (cellsI (play (h0s s) (ds.take k)).2.2) ∧ Below w.heap.size w wr) (fun _ _ i _ => ds.length - (intOf i).toNat)
  case atStart => exact ⟨0, Nat.zero_le _, rfl, HN.out, World.ownsRow_nil _ _ _ _, World.ownsRow_nil _ _ _ _, hbn⟩
  case round =>
    clear hbn
    obtain ⟨k, hk, rfl, hm, ht, hc, hb⟩ := hrel
    by_cases hlt : k < ds.length
    · obtain ⟨b, o, rfl, hbb, x0, x1, x2, x3⟩ := DRow.at_ (HRD.out.below hb) hlt
      have hbw : b < wr.heap.size := Nat.lt_of_lt_of_le hbb hb.size
      obtain ⟨b', hg⟩ := HG.out k
      rw [List.length_take, Nat.min_eq_left hk, Nat.zero_add] at hg
      have HPT := Lib.hid (play_take (h0s s) ds k hlt)
      have hdk := HDK.out ds[k] (List.getElem_mem hlt)
      rw [play_after] at hm
      have HDD := Lib.hid (fun W (hmW : HM W w.heap.size w.heap.size (after (h0s s) (ds.take k))) => deed_any w.heap.size w.heap.size k b' _ ds[k] W hmW hg (by omega) hdk)
      rw [ddv_agg] at HDD
      have HH := Lib.hid hm
      have HT := Lib.hid ht
      have HC := Lib.hid hc
      have HB := Lib.hid hb
      clear hg hdk hm ht hc hb
      generalize ds[k] = d at *
      have hal : Below wr.heap.size wr (wr.alloc (.cells #[.int .i64 (dk d : Int), .int .i64 ((de d).p : Int), .int .i64 ((de d).c : Int), .string (de d).put] 36)) := (Below.refl _ _).alloc (Nat.le_refl _) _
      have HMA := Lib.hid (HH.out.below hal)
      have HTA := Lib.hid (own_below HT.out hal)
      have HCA := Lib.hid (own_below HC.out hal)
      have HBA := Lib.hid (HB.out.trans (hal.mono HB.out.size))
      have T0 := (Blk.new wr 36 #[.int .i64 (dk d : Int), .int .i64 ((de d).p : Int), .int .i64 ((de d).c : Int), .string (de d).put]).cell
      clear hal HH HT HC HB
      go_wp2_with (go_at_call 86; refine (HDD.out _ HMA.out).mono ?_)
      rintro e w2 ⟨v2, rfl, hm2, hb2, hk2⟩
      have ht2 := own_tk HTA.out hk2 (by decide) (by decide) (by decide)
      have hc2 := own_tk HCA.out hk2 (by decide) (by decide) (by decide)
      have hbb2 := HBA.out.trans hb2
      have HM2 := Lib.hid hm2
      obtain ⟨M, vu, vr, us, rs, q1, q2, q3⟩ := hm2
      have c0 : w2.cell? ⟨w.heap.size, 0, none⟩ = some (.string (deed (after (h0s s) (ds.take k)) d).1.text) := by rw [q1.hist.cell]; rfl
      have hRl := q1.hist.lt
      clear q1 q2 q3 hb2 hk2 HDD HTA HCA HMA HBA
      go_wp2_with (at_builtin; refine wpList_appN rfl (.tmp 37) (.tmp 42) _ rfl w.heap.size 9 _ 1 16 Try.underlying60 str_info rfl (by decide) _ k _ rfl ht2 [.string (deed (after (h0s s) (ds.take k)) d).1.text] rfl _ rfl rfl rfl (by simp [Value.oneCell']) (by omega) (by omega) hbb2.size ?_)
      intro v3 w3 ht3 hB3 hg3
      have hb3 := hB3 _ (Nat.le_refl _) _ hbb2
      have HM3 := Lib.hid (HM2.out.other hg3 ((own_where ht2).imp id (fun ⟨g, cs, e, hb⟩ => ⟨g, _, cs, e, hb, by decide, by decide, by decide⟩)))
      have hc3 := hc2.kept hg3 (own_own_ne hc2 ht2 (by decide))
      obtain ⟨A3, c3, rfl, hc4, hc5⟩ := own_slice ht3
      clear hB3 hg3 ht2 hc2 HM2 c0 hbb2 x0 x1 x2 x3 T0
      go_wp2_with (at_builtin; refine wpList_appN rfl (.tmp 44) (.tmp 46) _ rfl w.heap.size 28 _ 1 8 Try.underlying71 errno_info rfl (by decide) _ k _ rfl hc3 [.int .i64 ((deed (after (h0s s) (ds.take k)) d).2 : Int)] rfl _ rfl rfl rfl (by simp [Value.oneCell']) (by omega) (by omega) hb3.size ?_)
      intro v4 w4 hc6 hB4 hg4
      have hb4 := hB4 _ (Nat.le_refl _) _ hb3
      have HM4 := Lib.hid (HM3.out.other hg4 ((own_where hc3).imp id (fun ⟨g, cs, e, hb⟩ => ⟨g, _, cs, e, hb, by decide, by decide, by decide⟩)))
      have ht4 := ht3.kept hg4 (own_own_ne ht3 hc3 (by decide))
      obtain ⟨A4, c4, rfl, hc7, hc8⟩ := own_slice hc6
      have HT4 := Lib.hid ht4
      have HC6 := Lib.hid hc6
      have HB4 := Lib.hid hb4
      clear hB4 hg4 hc3 HM3 ht3 hb3 ht4 hc6 hb4
      go_wp2_with fail
      go_roundw
      case rel =>
        refine ⟨k + 1, by omega, by go_num, ?_, ?_, ?_, HB4.out⟩
        · rw [HPT.out]; exact HM4.out
        · rw [HPT.out, List.map_append]; exact HT4.out
        · rw [HPT.out, cellsI, List.map_append]; exact HC6.out
      case measure => simp [intOf]; omega
    · obtain rfl : k = ds.length := by omega
      have e : ds.take ds.length = ds := List.take_length
      rw [e] at hm ht hc
      have HM4 := Lib.hid hm
      have HT4 := Lib.hid ht
      have HC4 := Lib.hid hc
      have HB4 := Lib.hid hb
      obtain ⟨A3, c3, rfl, hc4, hc5⟩ := own_slice ht
      obtain ⟨A4, c4, rfl, hc6, hc7⟩ := own_slice hc
      clear hm ht hc hb e
      go_wp2_with fail
      refine bodyPost_ret (v := .tuple #[.pointer (some ⟨w.heap.size, 0, none⟩), .slice A3 ds.length c3, .slice A4 ds.length c4, .int .i64 0]) (by simp [results, Try.results58, go_sem]) rfl ⟨_, _, _, rfl, HM4.out, HT4.out, HC4.out, HB4.out⟩
def PlayedPost (s : ByteArray) (ds : List Dd) (w : World) (e : Ending) (w' : World) : Prop :=
  ∃ vt vc, e = .returned (.tuple #[vt, vc, .int .i64 0]) ∧ w'.ownsRow w.heap.size 9 1 vt ds.length ((play (h0s s) ds).2.1.map .string) ∧
    w'.ownsRow w.heap.size 28 1 vc ds.length (cellsI (play (h0s s) ds).2.2) ∧ Below w.heap.size w w'
set_option maxRecDepth 100000 in
set_option maxHeartbeats 4000000 in
theorem played_any (s : ByteArray) (v : Value) (ds : List Dd) (w : World) (hs : s.size ≤ 600) (hl : ds.length ≤ 80) (hd : ∀ d ∈ ds, dOk d) (h : DRow w v ds) :
    Calls Try.prog 32 #[.string s, v] w (PlayedPost s ds w) := by
  have HP := Lib.hid (play_any s v ds w hs hl hd h)
  clear hd
  obtain ⟨A, cap, rfl, h1, h2, hr⟩ := h
  clear hr
  go_enter Try.func32, Try.ntmps32
  go_wp2_with (
    go_at_call 58
    refine HP.out.mono ?_
    rintro e w1 ⟨R, vt, vc, rfl, hm, ht, hc, hb⟩
    obtain ⟨A3, c3, rfl, hc4, hc5⟩ := own_slice ht
    obtain ⟨A4, c4, rfl, hc6, hc7⟩ := own_slice hc
    have HT := Lib.hid ht
    have HC := Lib.hid hc
    have HB := Lib.hid hb
    clear hm ht hc hb)
  refine bodyPost_ret (v := .tuple #[.slice A3 ds.length c3, .slice A4 ds.length c4, .int .i64 0]) (by simp [results, Try.results32, go_sem]) rfl ⟨_, _, rfl, HT.out, HC.out, HB.out⟩
theorem deed_info : (Try.prog.info? 36).map (fun i => (i.zero, i.size, i.bytes)) = some (some (.agg #[.int .i64 0, .int .i64 0, .int .i64 0, .string ⟨#[]⟩]), 4, 40) := by kernel_rfl
end Go.Proofs.Ytegobmlbldabbaa
