/-
  Places and numbers of finds in memory.
-/
import Derived.Test.YtacjckocjngfoaaManyP
import Derived.Test.YtacjckocjngfoaaMchM
import Derived.BigQuiet
import Derived.Deep.QuietTactic
namespace Go.Proofs.Ytacjckocjngfoaa
open Go.RowKit
set_option linter.unusedVariables false

def htc (x : Ht) : List Value := [.int .i64 (x.a : Int), .int .i64 (x.f : Int)]
theorem htc_len : ∀ x, (htc x).length = 2 := fun _ => rfl
theorem htc_one (x : Ht) : ∀ v ∈ htc x, v.oneCell' = true := by
  intro v hv
  rcases List.mem_cons.1 hv with rfl | hv
  · rfl
  · rcases List.mem_cons.1 hv with rfl | hv
    · rfl
    · cases hv
theorem htc_all (l : List Ht) : ∀ u ∈ cellsOf htc l, u.oneCell' = true := by
  intro u hu
  unfold cellsOf at hu
  obtain ⟨x, _, hx⟩ := List.mem_flatMap.1 hu
  exact htc_one x u hx
theorem hit_info : (Try.prog.info? 34).map (fun i => (i.zero, i.size, i.bytes)) = some (some (.agg #[.int .i64 0, .int .i64 0]), 2, 16) := by kernel_rfl
theorem Built.fds {w W : World} {fs : List ByteArray} {n : Nat} {l : List (List UInt8)} {S M : List UInt8 → Nat} {fd : List UInt8 → Int} {bk : List UInt8 → Value} (h : Built w W fs n l S M fd bk) : Fds l fd (fs.map fun x => x.data.toList) := by
  refine ⟨h.t, fun j hj => ?_, fun u hu => ?_, h.len⟩
  · rw [List.length_map] at hj
    rw [List.getElem_map]
    exact h.fin j hj
  · rcases h.fd_ u hu with q | ⟨j, hj, q1, q2⟩
    · exact .inl q
    · exact .inr ⟨j, by rw [List.length_map]; exact hj, q1, by rw [List.getElem_map]; exact q2⟩
theorem hits_step (l : List (List UInt8)) (fd : List UInt8 → Int) (e : Nat) {u : List UInt8} (hu : u ≠ []) (hl : u.length ≤ 10) :
    hitsOf fd e (chain l 10 u) = (if 0 ≤ fd u then [⟨e - u.length, (fd u).toNat⟩] else []) ++ hitsOf fd e (chain l 10 (psuf l u)) := by
  have h : chain l 10 u = u :: chain l 10 (psuf l u) := by
    have h1 : chain l 10 u = u :: chain l 9 (psuf l u) := by
      show (if u = [] then [] else u :: chain l 9 (psuf l u)) = _
      rw [if_neg hu]
    have := psuf_len l hu
    rw [h1, chain_more l 9 10 _ (by omega) (by omega)]
  rw [h, hitsOf_cons]
theorem hits_end (l : List (List UInt8)) (fd : List UInt8 → Int) (e : Nat) : hitsOf fd e (chain l 10 []) = [] := rfl

theorem slice_head {w : World} {B : Nat} {A : Option Addr} {c : Nat} {ss : List ByteArray} (h : Reads w B 1 A ss.length (ss.map .string)) (hc : ss.length ≤ c) (hi : Nat) (h2 : hi ≤ ss.length) :
    ∃ A' c', (∀ wx, (Instr.slice 25 (.slice A ss.length c) none (some (.int .i64 (hi : Int))) none).run Try.prog wx = .ok (.slice A' hi c') wx) ∧ Reads w B 1 A' (ss.take hi).length ((ss.take hi).map .string) := by
  have e : ∀ wx, (Instr.slice 25 (.slice A ss.length c) none (some (.int .i64 (hi : Int))) none).run Try.prog wx = .ok (sliced A 0 hi c 1) wx := fun wx => by
    rw [run_slice_h (w := wx) 25 _ _ _ (by kernel_rfl) _ _ (by omega) (by omega)]
    kernel_rfl
  refine ⟨_, _, e, ?_⟩
  rcases Nat.eq_zero_or_pos hi with rfl | hp
  · rw [List.take_zero]; exact Reads.none_
  · have hp' : 0 < ss.length := by omega
    obtain ⟨b, o, rfl, hb, hcc⟩ := h.plain (by omega) (by simp)
    rw [if_neg (by omega)]
    refine ⟨by simp, fun _ => ⟨⟨b, o, none⟩, rfl, hb, fun j u hu => ?_⟩⟩
    rw [add_plain]
    refine hcc j u ?_
    rw [List.getElem?_map] at hu ⊢
    rw [List.getElem?_take] at hu
    split at hu
    · exact hu
    · cases hu
set_option maxRecDepth 100000 in
set_option maxHeartbeats 2000000 in
theorem indexS_none (A : Option Addr) (c : Nat) (ss : List ByteArray) (x : ByteArray) (w : World) (B : Nat) (h : Reads w B 1 A ss.length (ss.map .string)) (hl : ss.length ≤ 1000) (hx : x ∉ ss) :
    Calls Try.prog 27 #[.slice A ss.length c, .string x] w fun e w' => e = .returned (.int .i64 (-1)) ∧ ∃ q, w' = w.drewN q := by
  have HR := Lib.hid h
  have HX := Lib.hid hx
  clear h hx
  go_enter Try.func27, Try.ntmps27
  go_wp2_with fail
  go_loopw [8] (fun i wr => ∃ k q : Nat, k ≤ ss.length ∧ i = .int .i64 k ∧ wr = w.drewN q) (fun i _ => ss.length - (intOf i).toNat)
  case atStart => exact ⟨0, 0, Nat.zero_le _, rfl, rfl⟩
  case round =>
    obtain ⟨k, q, hk, rfl, rfl⟩ := hrel
    by_cases hlt : k < ss.length
    · obtain ⟨b1, o1, rfl, _, x1⟩ := SRow.at_ HR.out hlt
      have hk0 : (0 : Int) ≤ (k : Int) := by omega
      have hk1 : (k : Int) < (ss.length : Int) := by omega
      have he := bytes_ne (a := x) (b := ss[k]) (fun e => HX.out (by rw [e]; exact List.getElem_mem hlt))
      generalize ss[k] = y at *
      go_wp2_with fail
      exact ⟨⟨k + 1, q, by omega, by go_num, rfl⟩, by simp [intOf]; omega⟩
    · have hd : decide ((k : Int) < (ss.length : Int)) = false := decide_eq_false (by omega)
      go_wp2_with fail
      go_ret
      exact ⟨rfl, q, rfl⟩
theorem containsS_none (A : Option Addr) (c : Nat) (ss : List ByteArray) (x : ByteArray) (w : World) (B : Nat) (h : Reads w B 1 A ss.length (ss.map .string)) (hl : ss.length ≤ 1000) (hx : x ∉ ss) :
    Calls Try.prog 13 #[.slice A ss.length c, .string x] w fun e w' => e = .returned (.bool false) ∧ Below w.heap.size w w' := by
  have HC := Lib.hid (indexS_none A c ss x w B h hl hx)
  clear h hx
  have hd : decide ((0 : Int) ≤ -1) = false := by decide
  go_enter Try.func13, Try.ntmps13
  go_wp2_with fail
  refine HC.out.mono ?_
  rintro e w1 ⟨rfl, q, rfl⟩
  go_wp2_with fail
  go_ret
  exact ⟨rfl, below_drewN (Below.refl _ _) _⟩
end Go.Proofs.Ytacjckocjngfoaa
