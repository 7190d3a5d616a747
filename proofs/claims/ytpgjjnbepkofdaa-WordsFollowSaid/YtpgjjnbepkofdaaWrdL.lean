/-
  The walks of (words.Table).List and words.All: the words of a table, in order.
-/
import Derived.Test.YtpgjjnbepkofdaaWrdO
import Derived.Test.YtpgjjnbepkofdaaKeysL
import Derived.Test.YtpgjjnbepkofdaaCopy
import Derived.Shelf.SlicesE.Clone
namespace Go.Proofs.Ytpgjjnbepkofdaa
open Go.RowKit Go.WideMaps Go.Maps Go.ChangeShapes Go.ChangeMaps Go.Shelf
set_option linter.unusedVariables false
set_option linter.unusedSimpArgs false

/-- A word, where it begins, and the slice that says so. -/
structure WV where
  k : List UInt8
  at_ : List Int
  v : Value
def wvc (x : WV) : List Value := [.string ⟨x.k.toArray⟩, x.v]
theorem wvc_len : ∀ x, (wvc x).length = 2 := fun _ => rfl
/-- Words in order, and none is lacking. -/
structure WdsOk (g : ByteArray → List Int) (L : List (List UInt8)) : Prop where
  up : L.Pairwise (fun a b => a ≤ b ∧ a ≠ b)
  mem : ∀ x, x ∈ L ↔ (x.length ≤ maxLen ∧ g ⟨x.toArray⟩ ≠ [])
theorem WdsOk.unique {g : ByteArray → List Int} {L L' : List (List UInt8)} (h : WdsOk g L) (h' : WdsOk g L') : L = L' := by
  have n1 : L.Nodup := h.up.imp fun h => h.2
  have n2 : L'.Nodup := h'.up.imp fun h => h.2
  refine List.Perm.eq_of_pairwise (le := fun a b => a ≤ b) (fun a b _ _ h1 h2 => List.le_antisymm h1 h2) (h.up.imp fun h => h.1) (h'.up.imp fun h => h.1) ?_
  exact (List.perm_ext_iff_of_nodup n1 n2).2 fun x => by rw [h.mem, h'.mem]
theorem keys_facts {P : Program} {k : TypeId} {R : Value → Option (DataW Unit × List MemPlace)} {w : World} {b n : Nat} {D : DataW Unit} (hown : w.ownsMap P k R b n D) (K : Keyed P k) (hk : P.underlying k = some .string) {ss : List (List UInt8)} (hp : ss.Perm (strKeys D)) :
    (ss.mergeSort (fun x y => decide (x ≤ y))).Pairwise (fun a b => a ≤ b ∧ a ≠ b) ∧ ∀ x, x ∈ ss.mergeSort (fun x y => decide (x ≤ y)) ↔ has D (.string x) = true := by
  have hle := strKeys_le hown hk
  obtain ⟨es, hD, hpw, _⟩ := hown.entries K
  obtain ⟨es', hD', hko⟩ := hown.keysOf
  obtain rfl : es = es' := by rw [hD] at hD'; simpa using hD'
  subst hD
  have hs : ∀ p ∈ es, ∃ x, p.1 = .string x := fun p hp => by obtain ⟨v, hv⟩ := hko p hp; obtain ⟨x, _, hx, _⟩ := Maps.keyOf_str hk hv; exact ⟨x, hx⟩
  have hnd : (strKeys (.map es)).Nodup := by
    show (es.map fun p => strOf p.1).Nodup
    refine List.pairwise_map.2 (hpw.imp_of_mem fun {p q} hp' hq' hne e => hne ?_)
    obtain ⟨a, ha⟩ := hs p hp'
    obtain ⟨b, hb⟩ := hs q hq'
    rw [ha, hb] at e ⊢
    exact congrArg _ e
  have hm : ∀ x, x ∈ strKeys (.map es) ↔ has (.map es) (.string x) = true := fun x => by
    rw [has_eq, List.any_eq_true]
    show x ∈ es.map (fun p => strOf p.1) ↔ _
    rw [List.mem_map]
    constructor
    · rintro ⟨p, hp', rfl⟩
      obtain ⟨a, ha⟩ := hs p hp'
      exact ⟨p, hp', by rw [ha]; simp [Lit.sameKey, strOf]⟩
    · rintro ⟨p, hp', hs'⟩
      obtain ⟨a, ha⟩ := hs p hp'
      rw [ha] at hs'
      exact ⟨p, hp', by rw [ha]; simpa [Lit.sameKey, strOf] using hs'⟩
  have pm : (ss.mergeSort (fun x y => decide (x ≤ y))).Perm (strKeys (.map es)) := (List.mergeSort_perm ss _).trans hp
  have tr : ∀ a b c : List UInt8, decide (a ≤ b) = true → decide (b ≤ c) = true → decide (a ≤ c) = true := fun a b c h1 h2 => by simp only [decide_eq_true_eq] at *; exact List.le_trans h1 h2
  have to : ∀ a b : List UInt8, (decide (a ≤ b) || decide (b ≤ a)) = true := fun a b => by simp only [Bool.or_eq_true, decide_eq_true_eq]; exact List.le_total a b
  refine ⟨((List.pairwise_mergeSort tr to ss).and (pm.nodup_iff.2 hnd)).imp fun ⟨h1, h2⟩ => ⟨by simpa using h1, h2⟩, fun x => by rw [pm.mem_iff, hm]⟩
def cloneIntL_ren : Go.Shelf.Ren := ⟨fun | 41 => 76 | n => n, fun | 4 => 4 | 22 => 22 | 23 => 3 | n => n, fun n => n⟩
theorem cloneIntL : SlLaysE0.n41 Try.prog cloneIntL_ren := {
  mixed := by kernel_rfl
  f41 := ⟨Try.f76.name, by decide, Try.func76.trans (congrArg some (by kernel_rfl))⟩
  t4 := Try.underlying4
  a4 := Try.isAgg4
  z4 := Try.sizeOf4
  v4 := Try.zeroValue4
  t22 := Try.underlying22
  a22 := Try.isAgg22
  z22 := Try.sizeOf22
  v22 := Try.zeroValue22 }
theorem clone1_any (base : Nat) (v : Value) (xs : List Int) (w : World) (h : w.ownsInts base 3 .i64 v xs) (hl : xs.length ≤ 1000000) :
    Calls Try.prog 76 #[v] w fun e w' => ∃ v', e = .returned v' ∧ w'.ownsInts w.heap.size 3 .i64 v' xs ∧ Below w.heap.size w w' := by
  obtain ⟨i0, hi, hz0, hz1, hz2⟩ := info_parts int_info2
  obtain ⟨h, hwf⟩ := h
  rcases h.2 with ⟨rfl, hn⟩ | ⟨g, cap, cur, rfl, _⟩
  · obtain rfl : xs = [] := List.length_eq_zero_iff.1 hn
    exact (AnyE.slices_Clone_nil cloneIntL 0 0 w).mono fun e w' h => ⟨_, h.1, World.ownsInts_nil _ _ _ _, by rw [h.2]; exact Below.refl _ _⟩
  · exact (AnyE.slices_Clone cloneIntL i0 _ 1 8 hi hz0 hz1 hz2 rfl (by decide) Try.sizeOf3 g 0 xs.length cap (xs.map (.int .i64)) w (by simp) (by unfold maxLen; omega) (by omega)
      (fun j u hu => by
        have hj : j < xs.length * 1 := by have := (List.getElem?_eq_some_iff.1 hu).1; simpa using this
        rw [Nat.zero_add, h.cellAt j hj, hu]) (ints_one xs)).mono fun e w' ⟨v', he, ho, _, hb⟩ => ⟨v', he, ⟨ho, hwf⟩, hb⟩
theorem word_info : (Try.prog.info? 42).map (fun i => (i.zero, i.size, i.bytes)) = some (some (.agg #[.string ⟨#[]⟩, .slice none 0 0]), 2, 40) := by kernel_rfl
theorem own_low2 {w : World} {b b' : Nat} {e : TypeId} {size n : Nat} {v : Value} {xs : List Value} (h : w.ownsRow b e size v n xs) (hb : b' ≤ b) : w.ownsRow b' e size v n xs := by
  refine ⟨h.1, ?_⟩
  rcases h.2 with hn | ⟨g, cap, cur, e1, hg, rest⟩
  · exact .inl hn
  · exact .inr ⟨g, cap, cur, e1, Nat.le_trans hb hg, rest⟩
/-- Rows of two kinds lie in two blocks. -/
theorem own_ne_kind2 {W : World} {B B' s s' n n' : Nat} {e e' : TypeId} {v v' : Value} {xs xs' : List Value} (h : W.ownsRow B e s v n xs) (h' : W.ownsRow B' e' s' v' n' xs') (hne : e ≠ e') : v.ownBlock = none ∨ v.ownBlock ≠ v'.ownBlock := by
  rcases h.2 with ⟨rfl, _⟩ | ⟨g, cap, cur, rfl, _, hh, _⟩
  · exact .inl rfl
  · refine .inr fun e1 => ?_
    exact own_blk_ne h' hh (fun e2 => hne e2.symm) e1.symm
def ListPost (g : ByteArray → List Int) (w : World) (e : Ending) (w' : World) : Prop :=
  ∃ v l, e = .returned v ∧ w'.ownsRow w.heap.size 42 2 v l.length (cellsOf wvc l) ∧ (∀ x ∈ l, w'.ownsInts w.heap.size 3 .i64 x.v x.at_) ∧ WdsOk g (l.map WV.k) ∧ (∀ x ∈ l, x.at_ = g ⟨x.k.toArray⟩) ∧ l.length ≤ 1000 ∧ Below w.heap.size w w'
set_option maxRecDepth 100000 in
set_option maxHeartbeats 4000000 in
theorem list_any (b base n : Nat) (g : ByteArray → List Int) (w : World) (h : Tbl w b base n g) (hn : n ≤ 1000) :
    Calls Try.prog 37 #[.map (some b)] w (ListPost g w) := by
  obtain ⟨D, hown, hD⟩ := id h
  have hown' : w.ownsMap Try.prog 9 (rowElem w base 3 .i64) b n D := by
    obtain ⟨es, clock, hb, F, hs, e, _⟩ := hown
    exact ⟨es, clock, hb, F, hs, e⟩
  have hsz : Maps.size D ≤ n := by
    obtain ⟨es, clock, hb, F, hs, e, _⟩ := id hown
    rw [e, size_eq, length_sorted, List.length_map, Array.length_toList]
    exact hs
  have SK := Lib.hid (callsIn_wide.1 (sorted_keys b n D (rowElem w base 3 .i64) w hown' (by unfold maxLen; omega) (by omega)))
  have MK := Lib.hid (fun W => callsIn_wide.1 (maps_keys (some b) W))
  have HT := Lib.hid h
  have HOWN := Lib.hid hown'
  have HSZ := Lib.hid hsz
  have HD := Lib.hid hD
  have HG := Lib.hid hown
  clear h hown hown' hsz hD
  go_enter Try.func37, Try.ntmps37
  go_wp2_with fail
  refine (MK.out w).mono ?_
  rintro e w' ⟨rfl, rfl⟩
  go_wp2_with fail
  refine SK.out.mono ?_
  rintro e w1 ⟨vs, ss, rfl, hp, ho, _, hb1⟩
  have KF := keys_facts HOWN.out table_law Try.underlying9 hp
  have hKl : (ss.mergeSort (fun x y => decide (x ≤ y))).length = ss.length := List.length_mergeSort ss
  have hss : ss.length ≤ 1000 := by
    have := hp.length_eq
    obtain ⟨es, rfl⟩ := ownsGroups_isMap HG.out
    have h2 : (strKeys (.map es)).length = es.length := by unfold strKeys; rw [List.length_map]
    have h3 := HSZ.out
    rw [size_eq] at h3
    omega
  obtain ⟨K, hK⟩ : ∃ K, ss.mergeSort (fun x y => decide (x ≤ y)) = K := ⟨_, rfl⟩
  rw [hK] at KF ho hKl
  rw [← hKl] at ho hss
  have hkm : ∀ x ∈ K, x.length ≤ maxLen := fun x hx => strKeys_le HOWN.out Try.underlying9 x (by
    have := (KF.2 x).1 hx
    rw [← hK] at hx
    exact hp.mem_iff.1 ((List.mergeSort_perm ss _).mem_iff.1 hx))
  have hsz0 : (w.alloc (.cells #[.map (some b)] 76)).heap.size = w.heap.size + 1 := by simp
  have BE1 := Lib.hid (((Below.refl w.heap.size w).alloc (Nat.le_refl _) (.cells #[.map (some b)] 76)).trans (hb1.mono (by rw [hsz0]; omega)))
  have OK_ := Lib.hid ho
  have KF1 := Lib.hid KF
  have KM := Lib.hid hkm
  obtain ⟨As, cs, rfl, hcs1, hcs2⟩ := own_slice ho
  clear ho KF hkm hp hb1 SK MK hKl hK hsz0
  go_wp2_with fail
  have WF : WdsOk g K := ⟨KF1.out.1, fun x => by
    have hx1 : (⟨x.toArray⟩ : ByteArray).size = x.length := by simp [ByteArray.size]
    constructor
    · intro hx
      have h1 := KM.out x hx
      have h2 := (HD.out ⟨x.toArray⟩ (by rw [hx1]; exact h1)).2
      rw [show (⟨x.toArray⟩ : ByteArray).data.toList = x from rfl, (KF1.out.2 x).1 hx] at h2
      exact ⟨h1, of_decide_eq_true h2.symm⟩
    · rintro ⟨h1, h3⟩
      have h2 := (HD.out ⟨x.toArray⟩ (by rw [hx1]; exact h1)).2
      exact (KF1.out.2 x).2 (h2.trans (decide_eq_true h3))⟩
  have HWF := Lib.hid WF
  clear WF KF1 HOWN HSZ
  go_loopw [3, 10] (fun vo vi W => ∃ (k : Nat) (l : List WV), k ≤ K.length ∧ vi = .int .i64 (k : Int) ∧ l.map WV.k = K.take k ∧ l.length = k ∧ (∀ x ∈ l, x.at_ = g ⟨x.k.toArray⟩) ∧ W.ownsRow w.heap.size 42 2 vo l.length (cellsOf wvc l) ∧ (∀ x ∈ l, W.ownsInts w.heap.size 3 .i64 x.v x.at_) ∧
    W.ownsRow w.heap.size 9 1 (.slice As K.length cs) K.length (K.map encStr) ∧ Below w.heap.size w W) (fun _ vi _ => K.length - (intOf vi).toNat)
  case atStart => exact ⟨0, [], Nat.zero_le _, rfl, by simp, rfl, by simp, World.ownsRow_nil _ _ _ _, by simp, own_low2 OK_.out (by simp), BE1.out⟩
  case round =>
    obtain ⟨k, l, hk, rfl, hl1, hl2, hl3, ho, hr, hK, hb⟩ := hrel
    have HL1 := Lib.hid hl1
    have HL2 := Lib.hid hl2
    have HL3 := Lib.hid hl3
    have HO := Lib.hid ho
    have HRR := Lib.hid hr
    have HK := Lib.hid hK
    have HB := Lib.hid hb
    clear hl1 hl2 hl3 ho hr hK hb
    rcases Nat.lt_or_ge k K.length with hlt | hge
    · have k1 : (k : Int) < (K.length : Int) := by omega
      obtain ⟨x, hx⟩ : ∃ x, K[k] = x := ⟨_, rfl⟩
      have hxl : x.length ≤ maxLen := KM.out x (by rw [← hx]; exact List.getElem_mem _)
      have hcell : ∃ gs, As = some ⟨gs, 0, none⟩ ∧ wr.cell? ⟨gs, k, none⟩ = some (.string ⟨x.toArray⟩) := by
        have hK := HK.out
        rcases hK.2 with ⟨e, h0⟩ | ⟨gs, cap, cur, e, _⟩
        · omega
        · injection e with e1 e2 e3
          subst e1; subst e3
          refine ⟨gs, rfl, ?_⟩
          rw [hK.cellAt k (by omega), List.getElem?_map, List.getElem?_eq_getElem hlt, hx]
          rfl
      obtain ⟨gs, rfl, hc⟩ := hcell
      have HX := Lib.hid hx
      have hkey : keyOf Try.prog 9 (.string ⟨x.toArray⟩) = some (.string x) := keyOf_string_mk Try.underlying9 (s := ⟨x.toArray⟩) (by simpa [ByteArray.size] using hxl)
      obtain ⟨v, zs, hrun, hat, hoi, hzl, _⟩ := look_all HG.out table_law Try.underlying76 zeroInts (by unfold maxLen; omega) hkey
      have hzg : zs = g ⟨x.toArray⟩ := datI_eq hoi ((HD.out ⟨x.toArray⟩ (by simpa [ByteArray.size] using hxl)).1.symm.trans hat)
      have hrun1 := hrun wr (HB.out.block b (Tbl.lt HT.out).1)
      have hoi1 : wr.ownsInts base 3 .i64 v zs := hoi.kept (grown_of_below HB.out none) (by cases v.ownBlock <;> simp)
      have CL := Lib.hid (clone1_any base v zs wr hoi1 (by omega))
      have HZ := Lib.hid hzg
      clear hx hkey hrun hat hoi hzg hoi1
      go_wp2_with fail
      refine CL.out.mono ?_
      rintro e w2 ⟨v2, rfl, ho2, hb2⟩
      obtain ⟨A2, c2, rfl, hA21, hA22⟩ := own_slice ho2.1
      have HO2 := Lib.hid (own_below HO.out hb2)
      have HV2 := Lib.hid ho2
      have HR2 := Lib.hid (fun x hx => (HRR.out x hx).kept (grown_of_below hb2 none) (by cases x.v.ownBlock <;> simp))
      have HK2 := Lib.hid (own_below HK.out hb2)
      have HB2 := Lib.hid (HB.out.trans (hb2.mono HB.out.size))
      have hs2 := Nat.le_trans HB.out.size hb2.size
      have hwr := HB.out.size
      have hl9 : l.length ≤ 1000 := by rw [HL2.out]; omega
      clear ho2 hb2 HO HRR HK HB CL hrun1 hc
      go_wp2_with (at_builtin; refine wpList_appN rfl (.tmp 14) (.tmp 21) _ rfl w.heap.size 42 _ 2 40 Try.underlying38 word_info rfl (by decide) _ l.length (cellsOf wvc l) rfl HO2.out [.string ⟨x.toArray⟩, .slice A2 zs.length c2] rfl _ rfl (by simp) rfl (by simp [Value.oneCell']) (by omega) (by omega) hs2 ?_)
      intro v3 w3 ho3 hB3 hg3
      obtain ⟨y, hy⟩ : ∃ y : WV, y = ⟨x, zs, .slice A2 zs.length c2⟩ := ⟨_, rfl⟩
      have e1 : cellsOf wvc (l ++ [y]) = cellsOf wvc l ++ [.string ⟨x.toArray⟩, .slice A2 zs.length c2] := by
        rw [hy]; unfold cellsOf; rw [List.flatMap_append]; simp [wvc]
      have ho4 : w3.ownsRow w.heap.size 42 2 v3 (l ++ [y]).length (cellsOf wvc (l ++ [y])) := by
        rw [e1, List.length_append, List.length_singleton]; exact ho3
      have hr4 : ∀ z ∈ l ++ [y], w3.ownsInts w.heap.size 3 .i64 z.v z.at_ := fun z hz => by
        rcases List.mem_append.1 hz with hz | hz
        · exact (HR2.out z hz).kept hg3 (own_ne_kind2 (HR2.out z hz).1 HO2.out (by decide))
        · rw [List.mem_singleton.1 hz, hy]
          exact ⟨own_low2 (HV2.out.1.kept hg3 (own_ne_kind2 HV2.out.1 HO2.out (by decide))) hwr, HV2.out.2⟩
      have hk4 := HK2.out.kept hg3 (own_ne_kind2 HK2.out HO2.out (by decide))
      have hb4 := hB3 _ (Nat.le_refl _) _ HB2.out
      have HALL := Lib.hid (And.intro ho4 (And.intro hr4 (And.intro hk4 hb4)))
      have HY := Lib.hid hy
      clear ho3 hB3 hg3 e1 ho4 hr4 hk4 hb4 HO2 HV2 HR2 HK2 HB2 hy
      go_wp2_with fail
      refine ⟨⟨k + 1, l ++ [y], by omega, by go_num, ?_, ?_, ?_, HALL.out.1, HALL.out.2.1, HALL.out.2.2.1, HALL.out.2.2.2⟩, by simp [intOf]; omega⟩
      · rw [List.map_append, HL1.out, List.take_succ_eq_append_getElem hlt, HX.out, HY.out]; rfl
      · rw [List.length_append, HL2.out]; rfl
      · intro z hz
        rcases List.mem_append.1 hz with hz | hz
        · exact HL3.out z hz
        · rw [List.mem_singleton.1 hz, HY.out]; exact HZ.out
    · have k1 : decide ((k : Int) < (K.length : Int)) = false := decide_eq_false (by omega)
      obtain rfl : k = K.length := by omega
      go_wp2_with fail
      go_ret
      exact ⟨_, l, rfl, HO.out, HRR.out, by rw [HL1.out, List.take_length]; exact HWF.out, HL3.out, by rw [HL2.out]; exact hss, HB.out⟩
def WordsPost (text : ByteArray) (w : World) (e : Ending) (w' : World) : Prop :=
  ∃ v l, e = .returned (.tuple #[v, .int .i64 0]) ∧ w'.ownsRow w.heap.size 42 2 v l.length (cellsOf wvc l) ∧ (∀ x ∈ l, w'.ownsInts w.heap.size 3 .i64 x.v x.at_) ∧ WdsOk (fun s => placesOf (wordsOf text) s.data.toList) (l.map WV.k) ∧ (∀ x ∈ l, x.at_ = placesOf (wordsOf text) x.k) ∧ l.length ≤ 1000 ∧ Below w.heap.size w w'
set_option maxRecDepth 100000 in
theorem words_all (text : ByteArray) (w : World) (htx : text.size ≤ 600) : Calls Try.prog 20 #[.string text] w (WordsPost text w) := by
  have O1 := Lib.hid (of_any text w (by omega))
  have htx2 : decide ((600 : Int) < (text.size : Int)) = false := decide_eq_false (by omega)
  go_enter Try.func20, Try.ntmps20
  go_wp2_with fail
  refine O1.out.mono ?_
  rintro e w1 ⟨b, base, n, rfl, hn, hb, hlow, ht, hbe⟩
  have L1 := Lib.hid (list_any b base n _ w1 ht (by omega))
  have HBE := Lib.hid hbe
  clear ht hbe O1
  go_wp2_with fail
  refine L1.out.mono ?_
  rintro e w2 ⟨v, l, rfl, h1, h2, h3, h4, h5, h6⟩
  have hs := HBE.out.size
  have HA := Lib.hid (And.intro (own_low2 h1 hs) (And.intro (fun x (hx : x ∈ l) => (⟨own_low2 (h2 x hx).1 hs, (h2 x hx).2⟩ : w2.ownsInts w.heap.size 3 .i64 x.v x.at_)) (And.intro h3 (And.intro h4 (And.intro h5 (HBE.out.trans (h6.mono hs)))))))
  clear h1 h2 h3 h4 h5 h6 L1 hs HBE
  go_wp2_with fail
  go_ret2
  obtain ⟨a1, a2, a3, a4, a5, a6⟩ := HA.out
  exact ⟨v, l, rfl, a1, a2, a3, a4, a5, a6⟩
end Go.Proofs.Ytpgjjnbepkofdaa
