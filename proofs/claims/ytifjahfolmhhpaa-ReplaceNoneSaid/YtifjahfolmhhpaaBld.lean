/-
  strings.Builder's methods at this program: the shelf's contracts, laid.
-/
import Derived.Test.YtifjahfolmhhpaaBase
import Derived.Shelf.Strings.BuilderK
namespace Go.Proofs.Ytifjahfolmhhpaa
open Go.RowKit Go.Shelf
set_option linter.unusedVariables false

def bldRen : Go.Shelf.Ren := ⟨fun | 166 => 52 | 169 => 54 | 170 => 53 | 240 => 66 | 276 => 70 | n => n, fun | 0 => 0 | 3 => 3 | 4 => 4 | 5 => 5 | 9 => 9 | 20 => 20 | 37 => 57 | 70 => 99 | 72 => 101 | 75 => 103 | 80 => 96 | 127 => 126 | 164 => 131 | n => n, fun n => n⟩
theorem bldWriteL : Lays.n166 Try.prog bldRen := {
  mixed := by kernel_rfl
  f166 := Try.func52.trans (congrArg some (by kernel_rfl))
  f240 := Try.func66.trans (congrArg some (by kernel_rfl))
  f276 := Try.func70.trans (congrArg some (by kernel_rfl))
  t0 := Try.underlying0
  a0 := Try.isAgg0
  z0 := Try.sizeOf0
  v0 := Try.zeroValue0
  t3 := Try.underlying3
  a3 := Try.isAgg3
  z3 := Try.sizeOf3
  v3 := Try.zeroValue3
  t4 := Try.underlying4
  a4 := Try.isAgg4
  z4 := Try.sizeOf4
  v4 := Try.zeroValue4
  t9 := Try.underlying9
  a9 := Try.isAgg9
  z9 := Try.sizeOf9
  v9 := Try.zeroValue9
  t20 := Try.underlying20
  a20 := Try.isAgg20
  z20 := Try.sizeOf20
  v20 := Try.zeroValue20
  t37 := Try.underlying57
  a37 := Try.isAgg57
  z37 := Try.sizeOf57
  v37 := Try.zeroValue57
  t70 := Try.underlying99
  a70 := Try.isAgg99
  z70 := Try.sizeOf99
  v70 := Try.zeroValue99
  t72 := Try.underlying101
  a72 := Try.isAgg101
  z72 := Try.sizeOf101
  v72 := Try.zeroValue101
  t75 := Try.underlying103
  a75 := Try.isAgg103
  z75 := Try.sizeOf103
  v75 := Try.zeroValue103
  t164 := Try.underlying131
  a164 := Try.isAgg131
  z164 := Try.sizeOf131
  v164 := Try.zeroValue131 }
theorem bldStringL : Lays.n169 Try.prog bldRen := {
  mixed := by kernel_rfl
  f169 := Try.func54.trans (congrArg some (by kernel_rfl))
  t0 := Try.underlying0
  a0 := Try.isAgg0
  z0 := Try.sizeOf0
  v0 := Try.zeroValue0
  t3 := Try.underlying3
  a3 := Try.isAgg3
  z3 := Try.sizeOf3
  v3 := Try.zeroValue3
  t9 := Try.underlying9
  a9 := Try.isAgg9
  z9 := Try.sizeOf9
  v9 := Try.zeroValue9
  t37 := Try.underlying57
  a37 := Try.isAgg57
  z37 := Try.sizeOf57
  v37 := Try.zeroValue57
  t70 := Try.underlying99
  a70 := Try.isAgg99
  z70 := Try.sizeOf99
  v70 := Try.zeroValue99
  t72 := Try.underlying101
  a72 := Try.isAgg101
  z72 := Try.sizeOf101
  v72 := Try.zeroValue101
  t127 := Try.underlying126
  a127 := Try.isAgg126
  z127 := Try.sizeOf126
  v127 := Try.zeroValue126 }
theorem bldLenL : Lays.n170 Try.prog bldRen := {
  mixed := by kernel_rfl
  f170 := Try.func53.trans (congrArg some (by kernel_rfl))
  t0 := Try.underlying0
  a0 := Try.isAgg0
  z0 := Try.sizeOf0
  v0 := Try.zeroValue0
  t3 := Try.underlying3
  a3 := Try.isAgg3
  z3 := Try.sizeOf3
  v3 := Try.zeroValue3
  t37 := Try.underlying57
  a37 := Try.isAgg57
  z37 := Try.sizeOf57
  v37 := Try.zeroValue57
  t70 := Try.underlying99
  a70 := Try.isAgg99
  z70 := Try.sizeOf99
  v70 := Try.zeroValue99
  t72 := Try.underlying101
  a72 := Try.isAgg101
  z72 := Try.sizeOf101
  v72 := Try.zeroValue101 }
theorem bldX : Builder.Extra Try.prog bldRen where
  sizeBuilder := by kernel_rfl
  liesBuilder := by kernel_rfl
  t5 := Try.underlying5
  a5 := Try.isAgg5
  z5 := Try.sizeOf5
  v5 := Try.zeroValue5
  infoByte := by kernel_rfl
  cellsByte := by kernel_rfl
  sizeByte := by kernel_rfl
  neB5 := by decide
/-- A builder in block b that holds the bytes. -/
def Bld (b : Nat) (l : List UInt8) (w : World) : Prop := Lib.IsBuilderF 101 5 b b (Lib.byteCells l) w
/-- Whatever is no row of bytes and not the builder itself stands. -/
def Oth (b : Nat) (w w' : World) : Prop := Lib.OthersKept 5 (some b) w w'
theorem bld_write (b : Nat) (l : List UInt8) (s : ByteArray) (w : World) (h : Bld b l w) (hl : l.length + s.size ≤ 140737488355328) (hb : b ≤ w.heap.size) :
    Calls Try.prog 52 #[.pointer (some ⟨b, 0, none⟩), .string s] w fun e w' => e = .returned (.tuple #[.int .i64 s.size, .nilIface]) ∧ Bld b (l ++ s.data.toList) w' ∧ Below b w w' ∧ Oth b w w' :=
  (Any.Builder_WriteString_k bldWriteL bldX b b (Lib.byteCells l) s w h (by simpa [Lib.byteCells] using hl) hb).mono fun e w' ⟨he, h1, h2, h3⟩ =>
    ⟨he, .inr (by have : Lib.byteCells (l ++ s.data.toList) = Lib.byteCells l ++ Lib.strCells s := by simp [Lib.byteCells, Lib.strCells]
                  rw [this]; exact h1), h2, h3⟩
theorem bld_len (b : Nat) (l : List UInt8) (w : World) (h : Bld b l w) :
    Calls Try.prog 53 #[.pointer (some ⟨b, 0, none⟩)] w fun e w' => e = .returned (.int .i64 (l.length : Int)) ∧ w' = w :=
  (Any.Builder_Len_f bldLenL b b (Lib.byteCells l) w h).mono fun e w' ⟨he, h1⟩ => ⟨by rw [he]; simp [Lib.byteCells], h1⟩
theorem bld_string (b : Nat) (l : List UInt8) (w : World) (h : Bld b l w) (hb : b ≤ w.heap.size) :
    Calls Try.prog 54 #[.pointer (some ⟨b, 0, none⟩)] w fun e w' => e = .returned (.string ⟨l.toArray⟩) ∧ Bld b l w' ∧ Below b w w' ∧ Oth b w w' :=
  (Any.Builder_String_any_k bldStringL bldX b b l w h hb).mono fun e w' ⟨he, h1, h2, h3⟩ => ⟨he, h1, h2, h3⟩
theorem bld_fresh (w : World) : Bld w.heap.size [] (w.alloc (.cells #[.pointer none, .slice none 0 0] 101)) :=
  Lib.IsBuilderF.of (Lib.fresh_isBuilder _ _ w)
/-- An empty builder stays one while what lies below a later heap stands. -/
theorem bld_fresh_later {w w1 w' : World} (h : w1 = w.alloc (.cells #[.pointer none, .slice none 0 0] 101)) (hb : Below w1.heap.size w1 w') : Bld w.heap.size [] w' := by
  subst h
  have hlt : w.heap.size < (w.alloc (.cells #[.pointer none, .slice none 0 0] 101)).heap.size := (Array.getElem?_eq_some_iff.1 (heap_alloc_new w _)).1
  have := hb.block w.heap.size hlt
  refine .inl ⟨Nat.le_refl _, .slice none 0 0, ?_, ?_, by simp [Value.ownBlock]⟩
  · rw [this]; exact heap_alloc_new w _
  · exact World.ownsRowF_of (World.ownsRow_nil _ _ _ _)
theorem Oth.refl (b : Nat) (w : World) : Oth b w w := Lib.OthersKept.refl _ _ _
theorem Oth.trans {b : Nat} {a c d : World} (h : Oth b a c) (k : Oth b c d) : Oth b a d := Lib.OthersKept.trans h k
/-- A row of something else than bytes is read as before. -/
theorem Oth.cell {b g : Nat} {w w' : World} {e : TypeId} {cur : Array Value} {fz : Nat × Nat} (h : Oth b w w') (hg : w.heap[g]? = some (.cells cur e fz)) (he : e ≠ 5) (hgb : g ≠ b) (j : Nat) : w'.cell? ⟨g, j, none⟩ = w.cell? ⟨g, j, none⟩ := by
  have := h g _ hg (fun e1 => hgb (Option.some.inj e1)) (fun _ _ e1 => by cases e1; exact he rfl)
  exact World.cell?_of_block (a := ⟨g, j, none⟩) (by rw [this, hg])
end Go.Proofs.Ytifjahfolmhhpaa
