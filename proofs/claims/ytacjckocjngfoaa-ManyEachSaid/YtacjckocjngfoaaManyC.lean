/-
  Places and numbers of finds in memory.
-/
import Derived.Test.YtacjckocjngfoaaManyP
import Derived.Test.YtacjckocjngfoaaMchM
namespace Go.Proofs.Ytacjckocjngfoaa
open Go.RowKit
set_option linter.unusedVariables false

def htc (x : Ht) : List Value := [.int .i64 (x.a : Int), .int .i64 (x.f : Int)]
theorem htc_len : ∀ x, (htc x).length = 2 := fun _ => rfl
theorem htc_one (x : Ht) : ∀ v ∈ htc x, v.oneCell' = true := by
  intro v hv
  rcases List.mem_cons.1 hv with rfl | hv
  · rfl
  · rcases List.mem_cons.1 hv with rfl | hv
    · rfl
    · cases hv
theorem htc_all (l : List Ht) : ∀ u ∈ cellsOf htc l, u.oneCell' = true := by
  intro u hu
  unfold cellsOf at hu
  obtain ⟨x, _, hx⟩ := List.mem_flatMap.1 hu
  exact htc_one x u hx
theorem hit_info : (Try.prog.info? 34).map (fun i => (i.zero, i.size, i.bytes)) = some (some (.agg #[.int .i64 0, .int .i64 0]), 2, 16) := by kernel_rfl
theorem Built.fds {w W : World} {fs : List ByteArray} {n : Nat} {l : List (List UInt8)} {S M : List UInt8 → Nat} {fd : List UInt8 → Int} {bk : List UInt8 → Value} (h : Built w W fs n l S M fd bk) : Fds l fd (fs.map fun x => x.data.toList) := by
  refine ⟨h.t, fun j hj => ?_, fun u hu => ?_, h.len⟩
  · rw [List.length_map] at hj
    rw [List.getElem_map]
    exact h.fin j hj
  · rcases h.fd_ u hu with q | ⟨j, hj, q1, q2⟩
    · exact .inl q
    · exact .inr ⟨j, by rw [List.length_map]; exact hj, q1, by rw [List.getElem_map]; exact q2⟩
theorem hits_step (l : List (List UInt8)) (fd : List UInt8 → Int) (e : Nat) {u : List UInt8} (hu : u ≠ []) (hl : u.length ≤ 10) :
    hitsOf fd e (chain l 10 u) = (if 0 ≤ fd u then [⟨e - u.length, (fd u).toNat⟩] else []) ++ hitsOf fd e (chain l 10 (psuf l u)) := by
  have h : chain l 10 u = u :: chain l 10 (psuf l u) := by
    have h1 : chain l 10 u = u :: chain l 9 (psuf l u) := by
      show (if u = [] then [] else u :: chain l 9 (psuf l u)) = _
      rw [if_neg hu]
    have := psuf_len l hu
    rw [h1, chain_more l 9 10 _ (by omega) (by omega)]
  rw [h, hitsOf_cons]
theorem hits_end (l : List (List UInt8)) (fd : List UInt8 → Int) (e : Nat) : hitsOf fd e (chain l 10 []) = [] := rfl
end Go.Proofs.Ytacjckocjngfoaa
