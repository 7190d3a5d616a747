/-
  The walk of a step of the machine of many finds.
-/
import Derived.Test.YtacjckocjngfoaaMch
import Derived.LaidEqlPtr
namespace Go.Proofs.Ytacjckocjngfoaa
open Go.RowKit Go.WideMaps Go.Maps Go.ChangeShapes Go.ChangeMaps
set_option linter.unusedVariables false
set_option linter.unusedSimpArgs false

theorem st_info : ∃ j, Try.prog.info? 46 = some j ∧ j.size = 4 := by
  have h : (Try.prog.info? 46).map (·.size) = some 4 := by kernel_rfl
  obtain ⟨j, h1, h2⟩ := Option.map_eq_some_iff.1 h
  exact ⟨j, h1, h2⟩
theorem ptr_same (a : Addr) (w : World) : (binOp .eql 41 (.pointer (some a)) (.pointer (some a))).run Try.prog w = .ok (.bool true) w := by
  obtain ⟨j, h1, h2⟩ := st_info
  exact run_eql_ptr_same w a Try.underlying41 h1
theorem ptr_other {w : World} {s t : Nat} {cs ct : Array Value} {es et : TypeId} (hs : Blk w s es cs) (ht : Blk w t et ct) (hne : s ≠ t) : (binOp .eql 41 (.pointer (some ⟨s, 0, none⟩)) (.pointer (some ⟨t, 0, none⟩))).run Try.prog w = .ok (.bool false) w := by
  obtain ⟨j, h1, h2⟩ := st_info
  exact run_eql_ptr_other w Try.underlying41 h1 (by omega) (fun e => hne (by injection e)) hs ht
theorem ptr_same2 (a : Addr) (w : World) : (binOp .neq 41 (.pointer (some a)) (.pointer (some a))).run Try.prog w = .ok (.bool false) w := by
  obtain ⟨j, hte, h2⟩ := st_info
  have h : ∀ d : Nat, (Op.equalIn (d + 1) 41 (.pointer (some a)) (.pointer (some a))).run Try.prog w = .ok true w := fun d => by
    simp [Op.equalIn, run_underlying Try.underlying41, sizeOf, typeInfo, hte, run_sameAddr_same]
  simp only [binOp]
  simp [Op.equal, Op.maxDepth, h 9999]
theorem ptr_other2 {w : World} {s t : Nat} {cs ct : Array Value} {es et : TypeId} (hs : Blk w s es cs) (ht : Blk w t et ct) (hne : s ≠ t) : (binOp .neq 41 (.pointer (some ⟨s, 0, none⟩)) (.pointer (some ⟨t, 0, none⟩))).run Try.prog w = .ok (.bool true) w := by
  obtain ⟨j, hte, h2⟩ := st_info
  have h : ∀ d : Nat, (Op.equalIn (d + 1) 41 (.pointer (some ⟨s, 0, none⟩)) (.pointer (some ⟨t, 0, none⟩))).run Try.prog w = .ok false w := fun d => by
    simp [Op.equalIn, run_underlying Try.underlying41, sizeOf, typeInfo, hte, h2, run_sameAddr_other w (a := ⟨s, 0, none⟩) (b := ⟨t, 0, none⟩) (fun e => hne (by injection e)) hs ht]
  simp only [binOp]
  simp [Op.equal, Op.maxDepth, h 9999]
/-- The number 'long' of the state that a pointer leads to. -/
def lng (W : World) : Value → Nat
  | .pointer (some a) => match W.cell? ⟨a.block, 3, none⟩ with
    | some (.int _ x) => x.toNat
    | _ => 0
  | _ => 0
theorem Mch.lng_eq {W : World} {B n : Nat} {l : List (List UInt8)} {S M : List UInt8 → Nat} {fd : List UInt8 → Int} {bk : List UInt8 → Value} (h : Mch W B n l S M fd bk) {u : List UInt8} (hu : u ∈ l) : lng W (.pointer (some ⟨S u, 0, none⟩)) = u.length := by
  have h0 : W.cell? ⟨S u, 3, none⟩ = some (.int .i64 (u.length : Int)) := by rw [(h.blk u hu).cell 3]; rfl
  unfold lng
  simp only [h0, Int.toNat_natCast]
set_option maxRecDepth 100000 in
set_option maxHeartbeats 4000000 in
theorem step_any (W : World) (B n : Nat) (l : List (List UInt8)) (S M : List UInt8 → Nat) (fd : List UInt8 → Int) (bk : List UInt8 → Value) (h : Mch W B n l S M fd bk) (ht : Trie l) (u : List UInt8) (hu : u ∈ l) (c : UInt8) (hb : ∀ v ∈ l, v.length ≤ u.length → bk v = .pointer (some ⟨S (psuf l v), 0, none⟩)) :
    Calls Try.prog 15 #[.pointer (some ⟨S u, 0, none⟩), .int .u8 (c.toNat : Int)] W fun e w' => e = .returned (.pointer (some ⟨S (lsuf l (u ++ [c])), 0, none⟩)) ∧ w' = W := by
  have H := Lib.hid h
  have HB := Lib.hid hb
  clear h hb
  go_enter Try.func15, Try.ntmps15
  go_wp2_with fail
  go_loopw [0] (fun p w => ∃ v : List UInt8, v ∈ l ∧ p = .pointer (some ⟨S v, 0, none⟩) ∧ v.length ≤ u.length ∧ lsuf l (v ++ [c]) = lsuf l (u ++ [c]) ∧ w = W) (fun p w => lng w p)
  case atStart => exact ⟨u, hu, rfl, Nat.le_refl _, rfl, rfl⟩
  case round =>
    obtain ⟨v, hv, rfl, hvl, hvs, rfl⟩ := hrel
    have c0 : wr.cell? ⟨S v, 0, none⟩ = some (.map (some (M v))) := by rw [(H.out.blk v hv).cell 0]; rfl
    have c1 : wr.cell? ⟨S v, 1, none⟩ = some (.pointer (some ⟨S (psuf l v), 0, none⟩)) := by rw [(H.out.blk v hv).cell 1, ← HB.out v hv hvl]; rfl
    have lk := (H.out.mp v hv).look c
    by_cases hm : v ++ [c] ∈ l
    · rw [if_pos hm] at lk
      have lk2 : (Instr.lookup 44 (.map (some (M v))) (.int .u8 (c.toNat : Int)) true).run Try.prog wr = .ok (.tuple #[.pointer (some ⟨S (v ++ [c]), 0, none⟩), .bool true]) wr := lk
      have hr := Lib.hid (show lsuf l (u ++ [c]) = v ++ [c] by rw [← hvs, lsuf_of_mem hm])
      clear lk hvs c1
      go_wp2_with fail
      go_ret
      exact ⟨by rw [hr.out]; rfl, rfl⟩
    · rw [if_neg hm] at lk
      have lk2 : (Instr.lookup 44 (.map (some (M v))) (.int .u8 (c.toNat : Int)) true).run Try.prog wr = .ok (.tuple #[.pointer none, .bool false]) wr := lk
      clear lk
      rcases Decidable.em (v = []) with hv0 | hv0
      · have e1 : S (psuf l v) = S v := by rw [hv0]; rfl
        have hr := Lib.hid (show lsuf l (u ++ [c]) = v by rw [← hvs, hv0]; exact lsuf_none (by rw [hv0] at hm; exact hm))
        rw [e1] at c1
        have hp := ptr_same ⟨S v, 0, none⟩ wr
        clear hvs e1 hv0 hm
        go_wp2_with fail
        go_ret
        exact ⟨by rw [hr.out]; rfl, rfl⟩
      · have hne : S (psuf l v) ≠ S v := fun e => by
          have h1 := psuf_len l hv0
          by_cases h2 : psuf l v = v
          · rw [h2] at h1; omega
          · exact (H.out.inj _ (lsuf_mem ht.nil _) v hv h2).1 e
        have hp := ptr_other (H.out.blk _ (lsuf_mem ht.nil v.tail)) (H.out.blk v hv) hne
        have hl1 := psuf_len l hv0
        have hs1 := lsuf_step ht c hv0 hm
        rw [hvs] at hs1
        have hp' : (binOp .eql 41 (.pointer (some ⟨S (psuf l v), 0, none⟩)) (.pointer (some ⟨S v, 0, none⟩))).run Try.prog wr = .ok (.bool false) wr := hp
        have hm1 := H.out.lng_eq hv
        have hm2 := H.out.lng_eq (u := psuf l v) (lsuf_mem ht.nil v.tail)
        have hmem : psuf l v ∈ l := lsuf_mem ht.nil v.tail
        clear hvs hne hp hv0 hm
        generalize psuf l v = v' at *
        go_wp2_with fail
        exact ⟨⟨v', hmem, rfl, by omega, hs1, trivial⟩, by rw [hm1, hm2]; exact hl1⟩
end Go.Proofs.Ytacjckocjngfoaa
