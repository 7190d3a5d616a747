/-
  A table of words in memory: a map of rows of places, and what a look-up and an append of one place do to it.
-/
import Derived.Test.YtacjckocjngfoaaOrd
import Derived.Test.YtacjckocjngfoaaOff
import Derived.Test.YtacjckocjngfoaaOpen
import Derived.Maps.OwnRows
import Derived.Maps.Views
namespace Go.Proofs.Ytacjckocjngfoaa
open Go.RowKit Go.WideMaps Go.Maps Go.ChangeShapes Go.ChangeMaps
open Go.WideElems (Fit rd rg)
set_option linter.unusedVariables false
set_option linter.unusedSimpArgs false

theorem look_all {P : Program} {k t E e : TypeId} {q : IntKind} {base b n : Nat} {D : DataW Unit} {w : World} {key : Value} {kl : Lit} (h : w.ownsGroups P k base e q b n D) (K : Keyed P k) (ht : P.underlying t = some (.map k E)) (hz : ∀ w, (zeroValue E).run P w = .ok (.slice none 0 0) w) (hn : n < maxLen) (hkey : keyOf P k key = some kl) :
    ∃ v zs, (∀ w' : World, w'.heap[b]? = w.heap[b]? → (Instr.lookup t (.map (some b)) key false).run P w' = .ok v w') ∧ D.atKey kl .nil = rowDatum q v zs ∧ w.ownsInts base e q v zs ∧ zs.length ≤ n ∧ w.groupBack P t k base e q b n D key kl v := by
  obtain ⟨v, zs, hrun, h1, h2, h3, h4⟩ := h.at K ht (hz w) hn hkey
  refine ⟨v, zs, fun w' hw' => ?_, h1, h2, h3, h4⟩
  obtain ⟨es, clock, hb, F, _⟩ := h
  have hb' : w'.heap[b]? = some (.map es clock) := hw'.trans hb
  have nd : (es.toList.map (·.key)).Nodup := F.stamped.2.2
  rcases Maps.fit_look false K ht (hz w) hb F hkey with ⟨r0, n0, _⟩ | ⟨e0, y0, m0, k0, r0, _⟩
  · rcases Maps.fit_look false K ht (hz w') hb' F hkey with ⟨r1, n1, _⟩ | ⟨e1, y1, m1, k1, r1, _⟩
    · rw [hrun] at r0
      injection r0 with r0
      rw [r1, r0]
    · exact absurd k1 (n0 e1 m1)
  · rcases Maps.fit_look false K ht (hz w') hb' F hkey with ⟨r1, n1, _⟩ | ⟨e1, y1, m1, k1, r1, _⟩
    · exact absurd k0 (n1 e0 m0)
    · rw [hrun] at r0
      injection r0 with r0
      have e01 : e0 = e1 := by
        obtain ⟨i, hi, rfl⟩ := List.mem_iff_getElem.1 m0
        obtain ⟨j, hj, rfl⟩ := List.mem_iff_getElem.1 m1
        have hij : i = j := by
          have hp := List.pairwise_iff_getElem.1 nd
          simp only [List.length_map, List.getElem_map] at hp
          rcases Nat.lt_trichotomy i j with h | h | h
          · exact absurd (k0.trans k1.symm) (hp i j hi hj h)
          · exact h
          · exact absurd (k1.trans k0.symm) (hp j i hj hi h)
        subst hij; rfl
      subst e01
      rw [r1, r0]
def datI (zs : List Int) : DataW Unit := if zs = [] then .nil else .slice (lits .i64 zs) []
theorem lits_inj {a b : List Int} (h : lits (H := Unit) .i64 a = lits .i64 b) : a = b := by
  unfold lits at h
  exact (List.map_inj_right (fun x y hxy => by injection hxy with h1; injection h1)).1 h
/-- Block b is the table: at a word it holds the places g of it. -/
def Tbl (w : World) (b base n : Nat) (g : ByteArray → List Int) : Prop :=
  ∃ D : DataW Unit, w.ownsGroups Try.prog 9 base 3 .i64 b n D ∧ ∀ s : ByteArray, s.size ≤ maxLen → D.atKey (.string s.data.toList) .nil = datI (g s) ∧ has D (.string s.data.toList) = decide (g s ≠ [])
theorem table_law : Keyed Try.prog 9 := string_keyed Try.underlying9
theorem zeroInts (w : World) : (zeroValue 22).run Try.prog w = .ok (.slice none 0 0) w := by kernel_rfl
theorem key_ne {s s' : ByteArray} (h : s ≠ s') : (Lit.string s.data.toList) ≠ .string s'.data.toList := fun e => h (by
  injection e with e
  exact ByteArray.ext (Array.toList_inj.1 e))
theorem Tbl.made (w : World) : Tbl (w.alloc (.map #[] 0)) w.heap.size (w.heap.size + 1) 0 (fun _ => []) :=
  ⟨_, World.ownsGroups_made w _ _ _ _, fun s _ => ⟨rfl, rfl⟩⟩
/-- What is at a word is what the numbers say. -/
theorem datI_eq {w : World} {base : Nat} {v : Value} {zs zs' : List Int} (h : w.ownsInts base 3 .i64 v zs) (e : datI zs' = rowDatum .i64 v zs) : zs = zs' := by
  unfold datI at e
  rcases h.datum (H := Unit) with ⟨h1, rfl⟩ | h1
  · rw [h1] at e
    split at e
    · rename_i h0; exact h0.symm
    · cases e
  · rw [h1] at e
    split at e
    · cases e
    · injection e with e1 e2
      exact (lits_inj e1).symm
theorem ownsGroups_isMap {w : World} {P : Program} {k base e b n : Nat} {q : IntKind} {D : DataW Unit} (h : w.ownsGroups P k base e q b n D) : IsMap D := by
  obtain ⟨es, clock, _, _, _, rfl, _⟩ := h
  exact ⟨_, rfl⟩
theorem Tbl.put {w w0 : World} {b base n : Nat} {g : ByteArray → List Int} {D : DataW Unit} {v : Value} {zs : List Int} {s : ByteArray} (hD : ∀ s : ByteArray, s.size ≤ maxLen → D.atKey (.string s.data.toList) .nil = datI (g s) ∧ has D (.string s.data.toList) = decide (g s ≠ []))
    (hm : IsMap D) (hs : s.size ≤ maxLen) (hzs : zs ≠ []) (hoi : w0.ownsInts base 3 .i64 v zs) (h : w.ownsGroups Try.prog 9 base 3 .i64 b n (D.put (.string s.data.toList) (rowDatum .i64 v zs))) : Tbl w b base n (fun x => if x = s then zs else g x) := by
  have hk : WideAt.IsKeyLit (.string s.data.toList) := trivial
  refine ⟨_, h, fun x hx => ?_⟩
  by_cases e : x = s
  · subst e
    rw [atKey_put_same hm hk, has_put_same hm hk, hoi.datum_pos hzs]
    unfold datI
    simp [hzs]
  · rw [atKey_put_other (key_ne e), has_put_other (key_ne e)]
    simp only [if_neg e]
    exact hD x hx
end Go.Proofs.Ytacjckocjngfoaa
