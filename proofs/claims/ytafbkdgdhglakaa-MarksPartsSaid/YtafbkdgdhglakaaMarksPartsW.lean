/-
  The walk of the law MarksParts: whatever its input, it returns true and changes nothing that was there.
-/
import Derived.Test.YtafbkdgdhglakaaMovedM
import Derived.Test.YtafbkdgdhglakaaInv
namespace Go.Proofs.Ytafbkdgdhglakaa
open Go.RowKit
set_option linter.unusedVariables false

theorem sized_take (es : List Ed) (n j : Nat) (h : j < es.length) : sized n (es.take (j + 1)) = sized n (es.take j) + es[j].put.size - es[j].c := by
  rw [List.take_succ_eq_append_getElem h, sized_snoc]

set_option maxRecDepth 100000 in
set_option maxHeartbeats 4000000 in
theorem marksParts_walk (w : World) (v0 : Value) (l : List Int) (h0 : Row .i64 w v0 l) (size : Int) (hsize : -9223372036854775808 ≤ size ∧ size ≤ 9223372036854775807) (v1 : Value) (cs : List Chg) (h1 : Chgs w v1 cs) (cut : Int) (hcut : -9223372036854775808 ≤ cut ∧ cut ≤ 9223372036854775807) :
    Calls Try.prog 11 #[v0, .int .i64 size, v1, .int .i64 cut] w fun e w' => e = .returned (.bool true) ∧ Below w.heap.size w w' := by
  have hp := fun W => picked_any size 100 W hsize (by omega) (by omega)
  have hm := Int.emod_nonneg size (show (100 : Int) ≠ 0 by omega)
  have hm2 := Int.emod_lt_of_pos size (show (0 : Int) < 100 by omega)
  generalize size % 100 = y at *
  obtain ⟨n, rfl⟩ : ∃ n : Nat, y = (n : Int) := ⟨y.toNat, by omega⟩
  have HP := Lib.hid hp
  clear hp hm
  go_enter Try.func11, Try.ntmps11
  go_wp2_with fail
  refine (HP.out _).mono ?_
  rintro e w' ⟨rfl, rfl⟩
  go_wp2_with fail
  refine (marks_any v0 l 20 n _ h0 (by omega) (by omega)).mono ?_
  rintro e w1 ⟨vm, ms, rfl, hms, hmn, hml, k1⟩
  replace h1 := h1.later k1
  clear h0
  go_wp2_with fail
  refine (edits_any v1 cs 12 n _ h1 (by omega) (by omega)).mono ?_
  rintro e w2 ⟨ve, es, rfl, he, hv, hl, hb2⟩
  have ho := okr_of_vld es _ hv (by omega)
  have hput := vld_put600 es _ hv
  have k2 := bstep k1 hb2
  replace hms := hms.later hb2
  clear hb2 h1 hv
  obtain ⟨A, c, rfl, hlc, hc, hr⟩ := id he
  obtain ⟨Am, cm, rfl, hlcm, hcm, hrm⟩ := id hms
  unfold maxLen at hc hcm
  obtain ⟨k, hk⟩ : ∃ k : Nat, cut % ((es.length : Int) + 1) = (k : Int) := ⟨(cut % ((es.length : Int) + 1)).toNat, by have := Int.emod_nonneg cut (show (es.length : Int) + 1 ≠ 0 by omega); omega⟩
  have hkl : k ≤ es.length := by have := Int.emod_lt_of_pos cut (show 0 < (es.length : Int) + 1 by omega); omega
  have HK := Lib.hid hk
  clear hk
  go_wp2_with fail
  refine (picked_any cut _ _ hcut (by omega) (by omega)).mono ?_
  rintro e w' ⟨rfl, rfl⟩
  rw [HK.out]
  go_wp2_with fail
  go_loopw [13, 14] (fun m i wr => ∃ j q : Nat, j ≤ k ∧ i = .int .i64 j ∧ m = .int .i64 (sized n (es.take j) : Int) ∧ wr = w2.drewN q) (fun _ i _ => k - (intOf i).toNat)
  case atStart => exact ⟨0, 0, Nat.zero_le _, rfl, rfl, rfl⟩
  case round =>
    obtain ⟨j, q, hj, rfl, rfl, rfl⟩ := hrel
    by_cases hlt : j < k
    · obtain ⟨b0, o0, rfl, hab, c0, c1', c2'⟩ := EdRow.at_ hr (show j < es.length by omega)
      have hS := sized_take es n j (by omega)
      have hoj : okr n (es.take j) ∧ okr (sized n (es.take j)) (es.drop j) := by rw [← okr_append, List.take_append_drop]; exact ho
      have h600 := sized_600 _ _ (by omega) hoj.1
      have hdj : es.drop j = es[j] :: es.drop (j + 1) := by rw [List.drop_eq_getElem_cons (by omega)]
      rw [hdj] at hoj
      have ho1 := hoj.2.1
      have hp6 := hput es[j] (List.getElem_mem (by omega))
      generalize es[j] = d at *
      generalize sized n (es.take j) = S at *
      have HS := Lib.hid hS
      clear hS hoj hdj
      have e1 : (S : Int) + ((d.put.size : Int) - (d.c : Int)) = ((S + d.put.size - d.c : Nat) : Int) := by omega
      have E1 := Lib.hid e1
      clear e1
      go_wp2_with fail
      go_quiet (fail)
      go_wp2_with fail
      go_roundw
      case rel => exact ⟨j + 1, q + nq, by omega, by go_num, by rw [HS.out, ← E1.out], rfl⟩
      case measure => simp [intOf]; omega
    · obtain rfl : j = k := by omega
      have he5 : EdRow (w2.drewN q) (.slice A es.length c) es := he
      have hms5 : CRow 2 mkc (w2.drewN q) (.slice Am ms.length cm) ms := hms
      have k5 := below_drewN k2 q
      generalize w2.drewN q = w5 at *
      have hot := okr_append (es.take j) (es.drop j) n
      rw [List.take_append_drop] at hot
      have ho2 := hot.1 ho
      have hlt' : (es.take j).length ≤ 60 := by rw [List.length_take]; omega
      have hld : (es.drop j).length ≤ 60 := by rw [List.length_drop]; omega
      have h600 := sized_600 (es.take j) n (by omega) ho2.1
      have hL : ∀ m ∈ ms.map (mvs (es.take j)), m.at_ ≤ sized n (es.take j) := by
        intro m h
        obtain ⟨m0, h0, rfl⟩ := List.mem_map.1 h
        exact mvs_le _ _ _ ho2.1 (hmn m0 h0)
      have hcomp : (ms.map (mvs (es.take j))).map (mvs (es.drop j)) = ms.map (mvs es) := by
        rw [List.map_map]; refine List.map_congr_left fun m _ => ?_
        show mvs (es.drop j) (mvs (es.take j) m) = mvs es m
        rw [← mvs_append, List.take_append_drop]
      have HC := Lib.hid hcomp
      clear hcomp hot
      go_wp2_with fail
      refine (movedM_any n _ _ ms es _ hms5 he5 (by omega) hmn (by omega) (by omega) hput ho).mono ?_
      rintro e w6 ⟨va, rfl, hva, hb6⟩
      have he6 := he5.later hb6
      have hms6 := hms5.later hb6
      have k6 := bstep k5 hb6
      clear he5 hms5 k5 hb6
      go_wp2_with fail
      refine (movedM_any n _ _ ms (es.take j) _ hms6 (he6.take hkl) (by omega) hmn (by omega) hlt' (fun e h => hput e (List.mem_of_mem_take h)) ho2.1).mono ?_
      rintro e w7 ⟨vb, rfl, hvb, hb7⟩
      have he7 := he6.later hb7
      have hva7 := hva.later hb7
      have k7 := bstep k6 hb7
      clear he6 hms6 k6 hb7 hva
      have hlb : (ms.map (mvs (es.take j))).length = ms.length := List.length_map _
      go_wp2_with fail
      all_goals
        have hd := he7.drop hkl
        first
          | (have hck : c = j := by assumption
             rw [if_pos hck, hck, Nat.sub_self] at hd)
          | rw [if_neg (by assumption)] at hd
        refine (movedM_any (sized n (es.take j)) _ _ (ms.map (mvs (es.take j))) (es.drop j) _ hvb hd h600 hL (by rw [hlb]; omega) hld (fun e h => hput e (List.mem_of_mem_drop h)) ho2.2).mono ?_
        rintro e w8 ⟨vc, rfl, hvc, hb8⟩
        rw [HC.out] at hvc
        have hva8 := hva7.later hb8
        have k8 := bstep k7 hb8
        clear he7 hva7 k7 hb8 hvb hd
        obtain ⟨Aa, ca, rfl, hla, hca, hra⟩ := hva8
        obtain ⟨Ac, cc, rfl, hlc', hcc, hrc⟩ := hvc
        unfold maxLen at hca hcc
        have hlm : (ms.map (mvs es)).length = ms.length := List.length_map _
        generalize ms.map (mvs es) = L at *
        go_wp2_with fail
        go_loopw [21] (fun i wr => ∃ t q : Nat, t ≤ L.length ∧ i = .int .i64 t ∧ wr = w8.drewN q) (fun i _ => L.length - (intOf i).toNat)
        case atStart => exact ⟨0, 0, Nat.zero_le _, rfl, rfl⟩
        case round =>
          obtain ⟨t, q, ht, rfl, rfl⟩ := hrel
          by_cases hlt : t < L.length
          · obtain ⟨ba, oa, rfl, hba, a0, a1⟩ := CRow.at2 (x := fun m : Mk => .int .i64 (m.at_ : Int)) (y := fun m => .bool m.right) hra hlt
            obtain ⟨bc, oc, rfl, hbc, c0, c1'⟩ := CRow.at2 (x := fun m : Mk => .int .i64 (m.at_ : Int)) (y := fun m => .bool m.right) hrc hlt
            generalize L[t] = m at *
            generalize m.at_ = ma at *
            generalize m.right = mr at *
            go_wp2_with fail
            go_quiet (fail)
            go_wp2_with fail
            go_roundw
            case rel => exact ⟨t + 1, q + nq, by omega, by go_num, rfl⟩
            case measure => simp [intOf]; omega
          · go_wp2_with fail
            go_ret
            exact ⟨rfl, below_drewN k8 _⟩
end Go.Proofs.Ytafbkdgdhglakaa
