/-
  The walk of the statements' helper histed: what the history told, and that it plays a small piece as it must.
-/
import Derived.Test.YtpbpdglabeoehaaHistY
namespace Go.Proofs.Ytpbpdglabeoehaa
open Go.RowKit
set_option linter.unusedVariables false

theorem deed_info : (Try.prog.info? 41).map (fun i => (i.zero, i.size, i.bytes)) = some (some (.agg #[.int .i64 0, .int .i64 0, .int .i64 0, .string ⟨#[]⟩]), 4, 40) := by kernel_rfl
def xa2 : List Dd := [.do_ ⟨0, 0, ⟨#[120]⟩⟩, .undo]
theorem xa_text : (play (h0s ⟨#[97]⟩) xa2).2.1 = [⟨#[120, 97]⟩, ⟨#[97]⟩] := by
  have e1 : mk ⟨#[97]⟩ ⟨0, 0, ⟨#[120]⟩⟩ = ⟨#[120, 97]⟩ := by
    apply bytes_ext; rw [mk_list _ _ (by decide)]; rfl
  have e2 : mk ⟨#[120, 97]⟩ (unmk ⟨#[97]⟩ ⟨0, 0, ⟨#[120]⟩⟩) = ⟨#[97]⟩ := by
    rw [← e1]; exact unmk_mk _ _ (by decide)
  have d1 : deed (h0s ⟨#[97]⟩) (.do_ ⟨0, 0, ⟨#[120]⟩⟩) = (⟨⟨#[120, 97]⟩, [⟨[⟨0, 0, ⟨#[120]⟩⟩], [unmk ⟨#[97]⟩ ⟨0, 0, ⟨#[120]⟩⟩]⟩], [], true⟩, 0) := by
    rw [← e1]; rfl
  have d2 : (deed (⟨⟨#[120, 97]⟩, [⟨[⟨0, 0, ⟨#[120]⟩⟩], [unmk ⟨#[97]⟩ ⟨0, 0, ⟨#[120]⟩⟩]⟩], [], true⟩ : Hs) .undo).1.text = ⟨#[97]⟩ := e2
  show [(deed (h0s ⟨#[97]⟩) (.do_ ⟨0, 0, ⟨#[120]⟩⟩)).1.text, (deed (deed (h0s ⟨#[97]⟩) (.do_ ⟨0, 0, ⟨#[120]⟩⟩)).1 .undo).1.text] = _
  rw [d1, d2]
def HistedPost (s : ByteArray) (ds : List Dd) (w : World) (e : Ending) (w' : World) : Prop :=
  ∃ vt vc, e = .returned (.tuple #[vt, vc, .bool true]) ∧ w'.ownsRow w.heap.size 9 1 vt ds.length ((play (h0s s) ds).2.1.map .string) ∧
    w'.ownsRow w.heap.size 25 1 vc ds.length (cellsI (play (h0s s) ds).2.2) ∧ Below w.heap.size w w'
set_option maxRecDepth 100000 in
set_option maxHeartbeats 4000000 in
theorem histed_any (s : ByteArray) (v : Value) (ds : List Dd) (w : World) (hs : s.size ≤ 600) (hl : ds.length ≤ 80) (hd : ∀ d ∈ ds, dOk d) (h : DRow w v ds) :
    Calls Try.prog 33 #[.string s, v] w (HistedPost s ds w) := by
  obtain ⟨A, cap, rfl, h1, h2, hr⟩ := h
  unfold maxLen at h2
  have HD := Lib.hid hd
  clear hd
  go_enter Try.func33, Try.ntmps33
  go_wp2_with (at_builtin; refine wpList_copy rfl (.tmp 15) _ rfl 41 _ 4 40 Try.underlying31 deed_info rfl (by decide) _ ds.length _ (cellsOf ddc ds) rfl hr (cellsOf_oneCell ddc_one _) (by omega) (by omega) ?_)
  intro v1 w1 ho1 hb1
  have hr1 := DRow.of_own ho1
  obtain ⟨A1, c1, rfl, hc1, hc2⟩ := own_slice ho1
  have HP := Lib.hid (played_any s _ ds w1 hs hl HD.out hr1)
  clear hr ho1 hr1
  go_wp2_with (go_at_call 53; refine HP.out.mono ?_)
  rintro e w2 ⟨vt, vc, rfl, ht, hc, hb2⟩
  obtain ⟨A3, c3, rfl, hc3, hc4⟩ := own_slice ht
  obtain ⟨A4, c4, rfl, hc5, hc6⟩ := own_slice hc
  have hlit := Reads.news w2 (cellsOf ddc xa2) 41 4 2 (by rfl)
  have hdr : DRow (w2.alloc (.cells (cellsOf ddc xa2).toArray 41)) (.slice (some ⟨w2.heap.size, 0, none⟩) 2 2) xa2 := ⟨_, _, rfl, Nat.le_refl _, by decide, hlit⟩
  have HP2 := Lib.hid (played_any ⟨#[97]⟩ _ xa2 _ (by decide) (by decide) (by intro d hd; simp [xa2] at hd; rcases hd with rfl | rfl; exact ⟨by decide, by decide, by decide⟩; trivial) hdr)
  have hal : Below w2.heap.size w2 (w2.alloc (.cells (cellsOf ddc xa2).toArray 41)) := (Below.refl _ _).alloc (Nat.le_refl _) _
  have HT := Lib.hid (own_below ht hal)
  have HC := Lib.hid (own_below hc hal)
  have HB := Lib.hid (bstep (bstep hb1 hb2) hal)
  have HB1 := Lib.hid hb1
  clear ht hc hb1 hb2 hal hdr hlit HP
  go_wp2_with (go_at_call 53; refine HP2.out.mono ?_)
  rintro e w3 ⟨vt2, vc2, rfl, ht3, hc7, hb3⟩
  rw [xa_text] at ht3
  obtain ⟨A5, c5, rfl, hc8, hc9⟩ := own_slice hc7
  obtain ⟨g, cap2, rfl, hg, hgl⟩ := ht3.form (by decide)
  have q0 : w3.cell? ⟨g, 0, none⟩ = some (.string ⟨#[120, 97]⟩) := by
    have := ht3.cellAt 0 (by decide); exact this
  have q1 : w3.cell? ⟨g, 1, none⟩ = some (.string ⟨#[97]⟩) := by
    have := ht3.cellAt 1 (by decide); exact this
  have hc10 : 2 ≤ cap2 := by
    obtain ⟨A9, c9, e9, h9, _⟩ := own_slice ht3
    injection e9 with _ _ e9
    rw [e9]; exact h9
  have exl : xa2.length = 2 := rfl
  rw [exl]
  rw [exl] at hc8
  have HT3 := Lib.hid (own_below HT.out hb3)
  have HC3 := Lib.hid (own_below HC.out hb3)
  have HB3 := Lib.hid (bstep HB.out hb3)
  clear ht3 hc7 hb3 HT HC HB exl
  go_wp2_with fail
  go_quiet (fail)
  go_wp2_with fail
  refine bodyPost_ret (v := .tuple #[.slice A3 ds.length c3, .slice A4 ds.length c4, .bool true]) (by simp [results, Try.results33, go_sem]) rfl ⟨_, _, rfl, ?_, ?_, below_drewN HB3.out _⟩
  · exact own_mono HT3.out HB1.out.size
  · exact own_mono HC3.out HB1.out.size
end Go.Proofs.Ytpbpdglabeoehaa
