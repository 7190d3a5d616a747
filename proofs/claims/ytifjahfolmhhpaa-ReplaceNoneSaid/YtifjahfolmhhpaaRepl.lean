/-
  The walk of find.Replace: it gives s with f replaced by p, and how many times. Nothing that was there is changed.
-/
import Derived.Test.YtifjahfolmhhpaaReplP
import Derived.Test.YtifjahfolmhhpaaBld
import Derived.Test.YtifjahfolmhhpaaFew
namespace Go.Proofs.Ytifjahfolmhhpaa
open Go.RowKit Fnd
set_option linter.unusedVariables false

theorem sg_step (s : List UInt8) (m a i : Nat) (L : List Nat) (h : ¬ i < a) : sg s m a (i :: L) = ((s.drop a).take (i - a) :: (sg s m (i + m) L).1, (sg s m (i + m) L).2) := by simp [sg, h]
theorem sg_skip (s : List UInt8) (m a i : Nat) (L : List Nat) (h : i < a) : sg s m a (i :: L) = sg s m a L := by simp [sg, h]
/-- What the loop of Replace has done: the parts so far, and what is left. -/
def Rp (s f : ByteArray) (p : List UInt8) (j at_ : Nat) (acc : List UInt8) (n : Nat) : Prop :=
  ∃ ds, segs s f = (ds ++ (sg s.data.toList f.size at_ ((occ s f).drop j)).1, (sg s.data.toList f.size at_ ((occ s f).drop j)).2) ∧ ds.length = n ∧ acc = flat p ds ∧ n ≤ at_ ∧ at_ ≤ s.size ∧ acc.length ≤ at_ + 5 * n
theorem Rp.start (s f : ByteArray) (p : List UInt8) : Rp s f p 0 0 [] 0 := ⟨[], by simp [segs], rfl, by simp [flat], Nat.le_refl _, Nat.zero_le _, by simp⟩
theorem drop_cons {L : List Nat} {j : Nat} (h : j < L.length) : L.drop j = L.getD j 0 :: L.drop (j + 1) := by
  rw [List.drop_eq_getElem_cons h]; simp [List.getD, h]
theorem Rp.skip {s f : ByteArray} {p : List UInt8} {j a : Nat} {acc : List UInt8} {n : Nat} (h : Rp s f p j a acc n) (hj : j < (occ s f).length) (hi : (occ s f).getD j 0 < a) : Rp s f p (j + 1) a acc n := by
  obtain ⟨ds, h1, h2⟩ := h
  rw [drop_cons hj, sg_skip _ _ _ _ _ hi] at h1
  exact ⟨ds, h1, h2⟩
theorem Rp.take {s f : ByteArray} {p : List UInt8} {j a : Nat} {acc : List UInt8} {n i : Nat} (h : Rp s f p j a acc n) (hj : j < (occ s f).length) (hi : ¬ i < a) (he : (occ s f).getD j 0 = i) (hf : 0 < f.size) (hp : p.length ≤ 5) :
    Rp s f p (j + 1) (i + f.size) (acc ++ ((s.data.toList.drop a).take (i - a) ++ p)) (n + 1) := by
  obtain ⟨ds, h1, h2, h3, h4, h5, h6⟩ := h
  rw [drop_cons hj, he, sg_step _ _ _ _ _ hi] at h1
  have hb : i + f.size ≤ s.size := oc_bd _ _ _ _ i (by
    rw [← he, List.getD_eq_getElem?_getD, List.getElem?_eq_getElem hj]; exact List.getElem_mem hj)
  refine ⟨ds ++ [(s.data.toList.drop a).take (i - a)], by rw [h1]; simp, by simp [h2], by rw [h3, flat_snoc], by omega, hb, ?_⟩
  simp only [List.length_append, List.length_take, List.length_drop]
  omega
theorem Rp.fin {s f : ByteArray} {p : ByteArray} {a : Nat} {acc : List UInt8} {n : Nat} (h : Rp s f p.data.toList (occ s f).length a acc n) : repl s f p = acc ++ s.data.toList.drop a ∧ (segs s f).1.length = n := by
  obtain ⟨ds, h1, h2, h3, _⟩ := h
  rw [List.drop_length] at h1
  simp only [sg, List.append_nil] at h1
  exact ⟨by rw [repl, h1, h3], by rw [h1]; exact h2⟩
theorem cat_list (s p : ByteArray) (a i : Nat) : (s.extract a i ++ p).data.toList = (s.data.toList.drop a).take (i - a) ++ p.data.toList := by
  simp only [ByteArray.data_append, ByteArray.data_extract, Array.toList_append, Array.toList_extract, List.extract]
theorem ext_end (s : ByteArray) (a : Nat) : (s.extract a s.size).data.toList = s.data.toList.drop a := by
  simp only [ByteArray.data_extract, Array.toList_extract, List.extract]
  exact List.take_of_length_le (by simp)

theorem own_kind {w : World} {B : Nat} {e : TypeId} {size n m c g o : Nat} {xs : List Value} (h : w.ownsRow B e size (.slice (some ⟨g, o, none⟩) m c) n xs) : ∃ cur fz, w.heap[g]? = some (.cells cur e fz) ∧ B ≤ g := by
  rcases h.2 with ⟨hv, _⟩ | ⟨g2, cap, cur, hv, h1, h2, _⟩
  · cases hv
  · cases hv; exact ⟨_, _, h2, h1⟩
theorem size_list (s : ByteArray) : s.size = s.data.toList.length := by simp
def ReplPost (s f p : ByteArray) (w : World) (e : Ending) (w' : World) : Prop :=
  e = .returned (.tuple #[.string ⟨(repl s f p).toArray⟩, .int .i64 ((segs s f).1.length : Int), .int .i64 0]) ∧ Below w.heap.size w w'
set_option maxRecDepth 100000 in
set_option maxHeartbeats 4000000 in
theorem replace_any (s f p : ByteArray) (w : World) (hs : s.size ≤ 100) (hf0 : 0 < f.size) (hf : f.size ≤ 20) (hp : p.size ≤ 5) :
    Calls Try.prog 31 #[.string s, .string f, .string p] w (ReplPost s f p w) := by
  have hpl : p.data.toList.length ≤ 5 := by simpa using hp
  have HPL := Lib.hid hpl
  have HS := Lib.hid (Rp.start s f p.data.toList)
  clear hpl
  go_enter Try.func31, Try.ntmps31
  go_wp2_with fail
  refine (fault_any s f _ (by omega) hf hf0).mono ?_
  rintro e w' ⟨rfl, rfl⟩
  go_wp2_with fail
  have HB0 := Lib.hid (bld_fresh w)
  have HK0 := Lib.hid ((Below.refl w.heap.size w).alloc (Nat.le_refl _) (.cells #[.pointer none, .slice none 0 0] 101))
  have HL0 := Lib.hid (fun (w' : World) (h : Below (w.alloc (.cells #[.pointer none, .slice none 0 0] 101)).heap.size (w.alloc (.cells #[.pointer none, .slice none 0 0] 101)) w') => bld_fresh_later (w := w) rfl h)
  have HZ0 := Lib.hid (show w.heap.size < (w.alloc (.cells #[.pointer none, .slice none 0 0] 101)).heap.size from (Array.getElem?_eq_some_iff.1 (heap_alloc_new w _)).1)
  generalize hwa : w.alloc (.cells #[.pointer none, .slice none 0 0] 101) = wa at *
  clear hwa
  refine (in_own s f _ hf0 (by omega) (by omega)).mono ?_
  rintro e w1 ⟨v, B, rfl, hB, hown, hb1⟩
  have HB1 := Lib.hid (HL0.out _ hb1)
  have HK1 := Lib.hid (HK0.out.trans (hb1.mono (Nat.le_of_lt HZ0.out)))
  have hBb : w.heap.size < B := Nat.lt_of_lt_of_le HZ0.out hB
  have HR := Lib.hid (in_row s f w1 v B (by omega) hown)
  have hLn := oc_len (bf s) (bf f) f.size s.size
  have HLN := Lib.hid (show (occ s f).length ≤ s.size from hLn)
  have HOWN := Lib.hid hown
  have HBD := Lib.hid (show ∀ i ∈ occ s f, i + f.size ≤ s.size from oc_bd (bf s) (bf f) f.size s.size)
  clear hLn hown hb1 HL0 HZ0 HK0 HB0 hB
  obtain ⟨A, c, rfl, hlA, hcA, _, hrd⟩ := HR.out
  unfold maxLen at hcA
  have hnl : (natI (occ s f)).length = (occ s f).length := by simp [natI]
  rw [hnl] at hlA ⊢
  have HRD := Lib.hid hrd
  clear hrd hnl HR
  generalize hb : w.heap.size = b at *
  have HBW := Lib.hid hb
  clear hb
  go_wp2_with fail
  go_loopw [11, 12, 14, 25] (fun a n _ j wr => ∃ (j' a' n' : Nat) (acc : List UInt8), j' ≤ (occ s f).length ∧ j = .int .i64 j' ∧ a = .int .i64 a' ∧ n = .int .i64 n' ∧ Hid (Rp s f p.data.toList j' a' acc n') ∧ Hid (Bld b acc wr) ∧ Hid (Oth b w1 wr) ∧ Below b w wr) (fun _ _ _ j _ => (occ s f).length - (intOf j).toNat)
  case atStart => exact ⟨0, 0, 0, [], Nat.zero_le _, rfl, rfl, rfl, HS, HB1, Lib.hid (Oth.refl _ _), HK1.out⟩
  case round =>
    obtain ⟨j, a, n, acc, hj, rfl, rfl, rfl, HRP, HBL, HO, KW⟩ := hrel
    by_cases hlt : j < (occ s f).length
    · obtain ⟨g, o, rfl, _, hx⟩ := Row.at_ HRD.out (i := j) (by rw [natI_len]; exact hlt)
      obtain ⟨cur, fz, hg, hBg⟩ := own_kind HOWN.out
      have hx2 := (HO.out.cell hg (by decide) (by omega) (o + j)).trans hx
      rw [natI_get] at hx2
      have hmem : (occ s f).getD j 0 ∈ occ s f := by
        rw [List.getD_eq_getElem?_getD, List.getElem?_eq_getElem hlt]; exact List.getElem_mem hlt
      have hib := HBD.out _ hmem
      have HI := Lib.hid (show ∀ i, (occ s f).getD j 0 = i → (occ s f).getD j 0 = i from fun _ h => h)
      generalize hi : (occ s f).getD j 0 = i at *
      have HIE := Lib.hid hi
      have hj0 : (0 : Int) ≤ (j : Int) := by omega
      have hj1 : (j : Int) < ((occ s f).length : Int) := by omega
      have hj2 : decide (j < (occ s f).length) = true := by simp; omega
      have HHX := Lib.hid hg
      clear hg hx hmem hi HI
      by_cases hia : i < a
      · have hd1 : decide ((i : Int) < (a : Int)) = true := by simp; omega
        have hd2 : decide (i < a) = true := by simp; omega
        have HRP2 := Lib.hid (HRP.out.skip hlt (by rw [HIE.out]; exact hia))
        clear hia HRP
        go_wp2_with fail
        go_roundw
        case rel => exact ⟨j + 1, a, n, acc, by omega, by go_num, rfl, rfl, HRP2, HBL, HO, KW⟩
        case measure => simp [intOf]; omega
      · have hd1 : decide ((i : Int) < (a : Int)) = false := by simp; omega
        have hd2 : decide (i < a) = false := by simp; omega
        have HRP2 := Lib.hid (HRP.out.take hlt hia HIE.out hf0 HPL.out)
        have hha : a ≤ i := by omega
        have ha0 : (0 : Int) ≤ (a : Int) := by omega
        have ha1 : (a : Int) ≤ (i : Int) := by omega
        have ha2 : (i : Int) ≤ (s.size : Int) := by omega
        clear hia HRP
        go_wp2_with fail
        have hlen : (acc ++ ((s.data.toList.drop a).take (i - a) ++ p.data.toList)).length ≤ 600 := by
          obtain ⟨ds, _, _, _, h4, h5, h6⟩ := HRP2.out
          omega
        have hnb : n ≤ 100 := by
          obtain ⟨ds, _, _, _, h4, h5, h6⟩ := HRP2.out
          omega
        have hlb : acc.length + (s.extract a i ++ p).size ≤ 140737488355328 := by
          have h7 : (s.extract a i ++ p).size = (s.extract a i ++ p).data.toList.length := size_list _
          rw [h7, cat_list]
          simp only [List.length_append] at hlen ⊢
          omega
        refine (bld_write b acc _ wr HBL.out hlb (by rw [← HBW.out]; exact KW.size)).mono ?_
        rintro e w2 ⟨rfl, hB2, hbel, hoth⟩
        rw [cat_list] at hB2
        have HB2 := Lib.hid hB2
        have HO2 := Lib.hid (HO.out.trans hoth)
        have KW2 := KW.trans hbel
        generalize hacc : acc ++ ((s.data.toList.drop a).take (i - a) ++ p.data.toList) = acc2 at *
        clear hacc hB2 hoth hbel KW HO hlb HBL
        go_wp2_with fail
        refine (bld_len b acc2 w2 HB2.out).mono ?_
        rintro e w' ⟨rfl, rfl⟩
        have hd3 : decide ((600 : Int) < (acc2.length : Int)) = false := by simp; omega
        have hd4 : decide (600 < acc2.length) = false := by simp; omega
        go_wp2_with fail
        go_roundw
        case rel => exact ⟨j + 1, i + f.size, n + 1, acc2, by omega, by go_num, by go_num, by go_num, HRP2, HB2, HO2, KW2⟩
        case measure => simp [intOf]; omega
    · obtain rfl : j = (occ s f).length := by omega
      have hj2 : decide ((occ s f).length < (occ s f).length) = false := by simp
      have HF := Lib.hid HRP.out.fin
      have ha : a ≤ s.size := by obtain ⟨ds, _, _, _, h4, h5, h6⟩ := HRP.out; exact h5
      have ha0 : (0 : Int) ≤ (a : Int) := by omega
      have ha2 : (a : Int) ≤ (s.size : Int) := by omega
      go_wp2_with fail
      have hlen : (acc ++ s.data.toList.drop a).length ≤ 600 := by
        obtain ⟨ds, _, _, _, h4, h5, h6⟩ := HRP.out
        have h8 := size_list s
        simp only [List.length_append, List.length_drop]
        omega
      have hlb : acc.length + (s.extract a s.size).size ≤ 140737488355328 := by
        rw [size_list (s.extract a s.size), ext_end]
        simp only [List.length_append] at hlen ⊢
        omega
      refine (bld_write b acc _ wr HBL.out hlb (by rw [← HBW.out]; exact KW.size)).mono ?_
      rintro e w2 ⟨rfl, hB2, hbel, hoth⟩
      rw [ext_end, ← HF.out.1] at hB2
      rw [← HF.out.1] at hlen
      have HB2 := Lib.hid hB2
      have KW2 := KW.trans hbel
      have HN := Lib.hid HF.out.2
      clear hB2 hoth hbel KW HO hlb HBL HRP HF
      go_wp2_with fail
      refine (bld_len b _ w2 HB2.out).mono ?_
      rintro e w' ⟨rfl, rfl⟩
      have hd3 : decide ((600 : Int) < ((repl s f p).length : Int)) = false := by simp; omega
      have hd4 : decide (600 < (repl s f p).length) = false := by simp; omega
      go_wp2_with fail
      refine (bld_string b _ _ HB2.out (by rw [← HBW.out]; exact KW2.size)).mono ?_
      rintro e w3 ⟨rfl, _, hbel3, _⟩
      have KW3 := KW2.trans hbel3
      go_wp2_with fail
      go_ret3
      exact ⟨by rw [HN.out]; rfl, by rw [HBW.out]; exact KW3⟩
theorem repl_size (s f p : ByteArray) (hf : 0 < f.size) : s.size = (repl s f ⟨#[]⟩).length + (segs s f).1.length * f.size ∧ (repl s f p).length = (repl s f ⟨#[]⟩).length + (segs s f).1.length * p.size := by
  have h := congrArg List.length (repl_self s f hf)
  rw [← size_list s] at h
  unfold repl at h ⊢
  simp only [List.length_append] at h ⊢
  have h1 := flat_len f.data.toList (segs s f).1
  have h2 := flat_len p.data.toList (segs s f).1
  rw [← size_list] at h1 h2
  have h3 : (flat (⟨#[]⟩ : ByteArray).data.toList (segs s f).1) = flat [] (segs s f).1 := rfl
  rw [h3]
  omega
theorem of_list (s : ByteArray) (l : List UInt8) (h : l = s.data.toList) : (⟨l.toArray⟩ : ByteArray) = s := by subst h; simp
theorem hash_not {l : List Int} {n : Nat} {s : ByteArray} (h : s.data.toList = (l.take n).map ab) : (35 : UInt8) ∉ s.data.toList := by
  rw [h]
  intro hm
  obtain ⟨x, _, hx⟩ := List.mem_map.1 hm
  unfold ab at hx
  split at hx <;> simp at hx
end Go.Proofs.Ytifjahfolmhhpaa
