/-
  No cell of these rows narrows 'for every input' (looked for: loops, veiled, ifaces, maps, wideKeys, modest, calm, conditions, laid).
  DERIVED. THE GIVEN ROWS OF THIS SEAT. 11 by the template 'for every input the law returns true; each argument reads behind the call as it read before'; 0 by the template 'total and deterministic' (their statements: YtcgcakmpjeodfaaTotals.lean).
  GIVEN WITH THE SEED: the statements are not yours to turn. If you find one false, say at which input.
  Laid BY PROGRAM, IN A SANDBOX (cutbox-rows.mjs): the forced cells as the released guide's own fill.sh prints them over the translation 4bbd2a5024b1c0ba… (all of the seat's roots in one cut). By AI agents, Wed Nov 11 2026. No macro, syntax, notation, axiom, sorry.
-/
import Derived.Test.YtcgcakmpjeodfaaChecked
import GoSem.Claim
import GoSem.ClaimJoined
import GoSem.ClaimMapViews
import Derived.JoinedTies
import Derived.KernelRfl
namespace Go.Proofs.Ytcgcakmpjeodfaa
/- THE CELL 'sum', in the pinned program and in every row, IS THE sha256 OF THE DUMP (.gsa) THAT YtcgcakmpjeodfaaProg.lean LOADS. Nothing in Lean hashes anything: it is a label: what it is worth is what the hold of that sum in a sandbox is worth. -/
noncomputable def Try.pinned : Pinned := { name := "ytcgcakmpjeodfaa", sum := "4bbd2a5024b1c0ba200f5d43e3df5eb00921cd7ea15dbff5fd8b3c7aea4852f4", checked := Try.checked }
namespace Rows
def none {H : Type} : Left H := { results := [], args := [] }

/-- 'fustiantop.TopMarks': WHATEVER THE INPUT: true; the input reads as it did. -/
def topMarksSpec : ChangeSpec := { name := "topMarks", fn := fun _ => fun
  | [d1, d2] => { results := [.lit (.bool true)], args := [d1, d2] }
  | _ => none }
def topMarksRow : OpenClaim := { program := "ytcgcakmpjeodfaa", sum := "4bbd2a5024b1c0ba200f5d43e3df5eb00921cd7ea15dbff5fd8b3c7aea4852f4", func := "fustian/fustiantop.TopMarks", spec := "topMarks", unfollowed := true, recurses := true, apart := false }
def TopMarksSaid : Prop := topMarksRow.holds Try.pinned (OpenSpec.ofChange topMarksSpec)

/-- ITS FALSE NEIGHBOUR: 'it returns false'. Refute it at one input. -/
def topMarksWrong : ChangeSpec := { name := "topMarks", fn := fun _ => fun
  | [d1, d2] => { results := [.lit (.bool false)], args := [d1, d2] }
  | _ => none }
def TopMarksWrongFalsely : Prop := topMarksRow.holds Try.pinned (OpenSpec.ofChange topMarksWrong)

/-- 'fustiantop.TopHistory': WHATEVER THE INPUT: true; the input reads as it did. -/
def topHistorySpec : ChangeSpec := { name := "topHistory", fn := fun _ => fun
  | [d1, d2] => { results := [.lit (.bool true)], args := [d1, d2] }
  | _ => none }
def topHistoryRow : OpenClaim := { program := "ytcgcakmpjeodfaa", sum := "4bbd2a5024b1c0ba200f5d43e3df5eb00921cd7ea15dbff5fd8b3c7aea4852f4", func := "fustian/fustiantop.TopHistory", spec := "topHistory", apart := false }
def TopHistorySaid : Prop := topHistoryRow.holds Try.pinned (OpenSpec.ofChange topHistorySpec)

/-- ITS FALSE NEIGHBOUR: 'it returns false'. Refute it at one input. -/
def topHistoryWrong : ChangeSpec := { name := "topHistory", fn := fun _ => fun
  | [d1, d2] => { results := [.lit (.bool false)], args := [d1, d2] }
  | _ => none }
def TopHistoryWrongFalsely : Prop := topHistoryRow.holds Try.pinned (OpenSpec.ofChange topHistoryWrong)

/-- 'fustiankeep.SpansTaken': WHATEVER THE INPUT: true; the input reads as it did. -/
def spansTakenSpec : ChangeSpec := { name := "spansTaken", fn := fun _ => fun
  | [d1, d2, d3] => { results := [.lit (.bool true)], args := [d1, d2, d3] }
  | _ => none }
def spansTakenRow : OpenClaim := { program := "ytcgcakmpjeodfaa", sum := "4bbd2a5024b1c0ba200f5d43e3df5eb00921cd7ea15dbff5fd8b3c7aea4852f4", func := "fustian/fustiankeep.SpansTaken", spec := "spansTaken", unfollowed := true, recurses := true, apart := false }
def SpansTakenSaid : Prop := spansTakenRow.holds Try.pinned (OpenSpec.ofChange spansTakenSpec)

/-- ITS FALSE NEIGHBOUR: 'it returns false'. Refute it at one input. -/
def spansTakenWrong : ChangeSpec := { name := "spansTaken", fn := fun _ => fun
  | [d1, d2, d3] => { results := [.lit (.bool false)], args := [d1, d2, d3] }
  | _ => none }
def SpansTakenWrongFalsely : Prop := spansTakenRow.holds Try.pinned (OpenSpec.ofChange spansTakenWrong)

/-- 'fustiankeep.PosOrder': WHATEVER THE INPUT: true; the input reads as it did. -/
def posOrderSpec : ChangeSpec := { name := "posOrder", fn := fun _ => fun
  | [d1, d2, d3] => { results := [.lit (.bool true)], args := [d1, d2, d3] }
  | _ => none }
def posOrderRow : OpenClaim := { program := "ytcgcakmpjeodfaa", sum := "4bbd2a5024b1c0ba200f5d43e3df5eb00921cd7ea15dbff5fd8b3c7aea4852f4", func := "fustian/fustiankeep.PosOrder", spec := "posOrder", inPlace := ["internal/bytealg.CountString", "internal/bytealg.IndexByteString", "internal/bytealg.IndexString"], named := ["internal/bytealg.MaxLen"], apart := false }
def PosOrderSaid : Prop := posOrderRow.holds Try.pinned (OpenSpec.ofChange posOrderSpec)

/-- ITS FALSE NEIGHBOUR: 'it returns false'. Refute it at one input. -/
def posOrderWrong : ChangeSpec := { name := "posOrder", fn := fun _ => fun
  | [d1, d2, d3] => { results := [.lit (.bool false)], args := [d1, d2, d3] }
  | _ => none }
def PosOrderWrongFalsely : Prop := posOrderRow.holds Try.pinned (OpenSpec.ofChange posOrderWrong)

/-- 'fustiankeep.PosParts': WHATEVER THE INPUT: true; the input reads as it did. -/
def posPartsSpec : ChangeSpec := { name := "posParts", fn := fun _ => fun
  | [d1, d2, d3] => { results := [.lit (.bool true)], args := [d1, d2, d3] }
  | _ => none }
def posPartsRow : OpenClaim := { program := "ytcgcakmpjeodfaa", sum := "4bbd2a5024b1c0ba200f5d43e3df5eb00921cd7ea15dbff5fd8b3c7aea4852f4", func := "fustian/fustiankeep.PosParts", spec := "posParts", inPlace := ["internal/bytealg.CountString", "internal/bytealg.IndexByteString", "internal/bytealg.IndexString"], named := ["internal/bytealg.MaxLen"], apart := false }
def PosPartsSaid : Prop := posPartsRow.holds Try.pinned (OpenSpec.ofChange posPartsSpec)

/-- ITS FALSE NEIGHBOUR: 'it returns false'. Refute it at one input. -/
def posPartsWrong : ChangeSpec := { name := "posParts", fn := fun _ => fun
  | [d1, d2, d3] => { results := [.lit (.bool false)], args := [d1, d2, d3] }
  | _ => none }
def PosPartsWrongFalsely : Prop := posPartsRow.holds Try.pinned (OpenSpec.ofChange posPartsWrong)

/-- 'fustiankeep.PosBack': WHATEVER THE INPUT: true; the input reads as it did. -/
def posBackSpec : ChangeSpec := { name := "posBack", fn := fun _ => fun
  | [d1, d2] => { results := [.lit (.bool true)], args := [d1, d2] }
  | _ => none }
def posBackRow : OpenClaim := { program := "ytcgcakmpjeodfaa", sum := "4bbd2a5024b1c0ba200f5d43e3df5eb00921cd7ea15dbff5fd8b3c7aea4852f4", func := "fustian/fustiankeep.PosBack", spec := "posBack", inPlace := ["internal/bytealg.CountString", "internal/bytealg.IndexByteString", "internal/bytealg.IndexString"], named := ["internal/bytealg.MaxLen"], apart := false }
def PosBackSaid : Prop := posBackRow.holds Try.pinned (OpenSpec.ofChange posBackSpec)

/-- ITS FALSE NEIGHBOUR: 'it returns false'. Refute it at one input. -/
def posBackWrong : ChangeSpec := { name := "posBack", fn := fun _ => fun
  | [d1, d2] => { results := [.lit (.bool false)], args := [d1, d2] }
  | _ => none }
def PosBackWrongFalsely : Prop := posBackRow.holds Try.pinned (OpenSpec.ofChange posBackWrong)

/-- 'fustiankeep.LinesPlaces': WHATEVER THE INPUT: true; the input reads as it did. -/
def linesPlacesSpec : ChangeSpec := { name := "linesPlaces", fn := fun _ => fun
  | [d1, d2] => { results := [.lit (.bool true)], args := [d1, d2] }
  | _ => none }
def linesPlacesRow : OpenClaim := { program := "ytcgcakmpjeodfaa", sum := "4bbd2a5024b1c0ba200f5d43e3df5eb00921cd7ea15dbff5fd8b3c7aea4852f4", func := "fustian/fustiankeep.LinesPlaces", spec := "linesPlaces", inPlace := ["internal/bytealg.CountString", "internal/bytealg.IndexByteString", "internal/bytealg.IndexString"], unfollowed := true, recurses := true, named := ["internal/bytealg.MaxLen"], apart := false }
def LinesPlacesSaid : Prop := linesPlacesRow.holds Try.pinned (OpenSpec.ofChange linesPlacesSpec)

/-- ITS FALSE NEIGHBOUR: 'it returns false'. Refute it at one input. -/
def linesPlacesWrong : ChangeSpec := { name := "linesPlaces", fn := fun _ => fun
  | [d1, d2] => { results := [.lit (.bool false)], args := [d1, d2] }
  | _ => none }
def LinesPlacesWrongFalsely : Prop := linesPlacesRow.holds Try.pinned (OpenSpec.ofChange linesPlacesWrong)

/-- 'fustiankeep.MarksSorted': WHATEVER THE INPUT: true; the input reads as it did. -/
def marksSortedSpec : ChangeSpec := { name := "marksSorted", fn := fun _ => fun
  | [d1, d2, d3] => { results := [.lit (.bool true)], args := [d1, d2, d3] }
  | _ => none }
def marksSortedRow : OpenClaim := { program := "ytcgcakmpjeodfaa", sum := "4bbd2a5024b1c0ba200f5d43e3df5eb00921cd7ea15dbff5fd8b3c7aea4852f4", func := "fustian/fustiankeep.MarksSorted", spec := "marksSorted", unfollowed := true, recurses := true, apart := false }
def MarksSortedSaid : Prop := marksSortedRow.holds Try.pinned (OpenSpec.ofChange marksSortedSpec)

/-- ITS FALSE NEIGHBOUR: 'it returns false'. Refute it at one input. -/
def marksSortedWrong : ChangeSpec := { name := "marksSorted", fn := fun _ => fun
  | [d1, d2, d3] => { results := [.lit (.bool false)], args := [d1, d2, d3] }
  | _ => none }
def MarksSortedWrongFalsely : Prop := marksSortedRow.holds Try.pinned (OpenSpec.ofChange marksSortedWrong)

/-- 'fustiankeep.SpansAlgebra': WHATEVER THE INPUT: true; the input reads as it did. -/
def spansAlgebraSpec : ChangeSpec := { name := "spansAlgebra", fn := fun _ => fun
  | [d1, d2, d3, d4] => { results := [.lit (.bool true)], args := [d1, d2, d3, d4] }
  | _ => none }
def spansAlgebraRow : OpenClaim := { program := "ytcgcakmpjeodfaa", sum := "4bbd2a5024b1c0ba200f5d43e3df5eb00921cd7ea15dbff5fd8b3c7aea4852f4", func := "fustian/fustiankeep.SpansAlgebra", spec := "spansAlgebra", inPlace := ["slices.overlaps[fustian/api.Span]"], unfollowed := true, recurses := true, apart := false }
def SpansAlgebraSaid : Prop := spansAlgebraRow.holds Try.pinned (OpenSpec.ofChange spansAlgebraSpec)

/-- ITS FALSE NEIGHBOUR: 'it returns false'. Refute it at one input. -/
def spansAlgebraWrong : ChangeSpec := { name := "spansAlgebra", fn := fun _ => fun
  | [d1, d2, d3, d4] => { results := [.lit (.bool false)], args := [d1, d2, d3, d4] }
  | _ => none }
def SpansAlgebraWrongFalsely : Prop := spansAlgebraRow.holds Try.pinned (OpenSpec.ofChange spansAlgebraWrong)

/-- 'fustiankeep.SpansTwo': WHATEVER THE INPUT: true; the input reads as it did. -/
def spansTwoSpec : ChangeSpec := { name := "spansTwo", fn := fun _ => fun
  | [d1, d2, d3, d4, d5, d6] => { results := [.lit (.bool true)], args := [d1, d2, d3, d4, d5, d6] }
  | _ => none }
def spansTwoRow : OpenClaim := { program := "ytcgcakmpjeodfaa", sum := "4bbd2a5024b1c0ba200f5d43e3df5eb00921cd7ea15dbff5fd8b3c7aea4852f4", func := "fustian/fustiankeep.SpansTwo", spec := "spansTwo", inPlace := ["slices.overlaps[fustian/api.Span]"], unfollowed := true, recurses := true, apart := false }
def SpansTwoSaid : Prop := spansTwoRow.holds Try.pinned (OpenSpec.ofChange spansTwoSpec)

/-- ITS FALSE NEIGHBOUR: 'it returns false'. Refute it at one input. -/
def spansTwoWrong : ChangeSpec := { name := "spansTwo", fn := fun _ => fun
  | [d1, d2, d3, d4, d5, d6] => { results := [.lit (.bool false)], args := [d1, d2, d3, d4, d5, d6] }
  | _ => none }
def SpansTwoWrongFalsely : Prop := spansTwoRow.holds Try.pinned (OpenSpec.ofChange spansTwoWrong)

/-- 'fustiankeep.NormApart': WHATEVER THE INPUT: true; the input reads as it did. -/
def normApartSpec : ChangeSpec := { name := "normApart", fn := fun _ => fun
  | [d1, d2, d3] => { results := [.lit (.bool true)], args := [d1, d2, d3] }
  | _ => none }
def normApartRow : OpenClaim := { program := "ytcgcakmpjeodfaa", sum := "4bbd2a5024b1c0ba200f5d43e3df5eb00921cd7ea15dbff5fd8b3c7aea4852f4", func := "fustian/fustiankeep.NormApart", spec := "normApart", unfollowed := true, recurses := true, apart := false }
def NormApartSaid : Prop := normApartRow.holds Try.pinned (OpenSpec.ofChange normApartSpec)

/-- ITS FALSE NEIGHBOUR: 'it returns false'. Refute it at one input. -/
def normApartWrong : ChangeSpec := { name := "normApart", fn := fun _ => fun
  | [d1, d2, d3] => { results := [.lit (.bool false)], args := [d1, d2, d3] }
  | _ => none }
def NormApartWrongFalsely : Prop := normApartRow.holds Try.pinned (OpenSpec.ofChange normApartWrong)

/- THE SECOND FORM. 'bulk': how many values and letters a reading holds, each counted each time it is reached (what is shared counts as often as it is met; a slice's spare places count too). A statement '..UptoSaid' is the law's where the arguments, and the package variables that the reading takes, are together of bulk at most 1048576: NARROWER than '..Said'. Prove '..Said' where nothing that the law and all that it calls make is longer than what came in: it says more and counts as full. Else prove '..UptoSaid'. A law counts once. -/
mutual
def uptoBulk {H : Type} : DataW H → Nat
  | .lit (.string bytes) => bytes.length + 1
  | .lit _ => 1
  | .nil => 1
  | .ptr d => uptoBulk d + 1
  | .slice elems spare => uptoBulkAll elems + uptoBulkAll spare + 1
  | .agg parts => uptoBulkAll parts + 1
  | .iface _ d => uptoBulk d + 1
  | .map entries => uptoBulkEntries entries + 1
  | .held _ => 1
def uptoBulkAll {H : Type} : List (DataW H) → Nat
  | [] => 0
  | d :: r => uptoBulk d + uptoBulkAll r
def uptoBulkEntries {H : Type} : List (Lit × DataW H) → Nat
  | [] => 0
  | x :: r => uptoBulkEntry x + uptoBulkEntries r
def uptoBulkEntry {H : Type} : Lit × DataW H → Nat
  | (.string bytes, d) => bytes.length + uptoBulk d + 1
  | (_, d) => uptoBulk d + 1
 end
def uptoSmall : (H : Type) → List (DataW H) → Bool := fun _ ds => decide (uptoBulkAll ds ≤ 1048576)
def OpenSpec.upto (s : _root_.Go.ChangeSpec) : _root_.Go.OpenSpec := { _root_.Go.OpenSpec.ofChange s with cond := some uptoSmall }

/-- 'fustiantop.TopMarks', WHERE WHAT IT READS IS OF BULK AT MOST 1048576: true; the input reads as it did. -/
def topMarksUptoRow : OpenClaim := { program := "ytcgcakmpjeodfaa", sum := "4bbd2a5024b1c0ba200f5d43e3df5eb00921cd7ea15dbff5fd8b3c7aea4852f4", func := "fustian/fustiantop.TopMarks", spec := "topMarks", unfollowed := true, recurses := true, apart := false, narrowed := true }
def TopMarksUptoSaid : Prop := topMarksUptoRow.holds Try.pinned (OpenSpec.upto topMarksSpec)

/-- 'fustiantop.TopHistory', WHERE WHAT IT READS IS OF BULK AT MOST 1048576: true; the input reads as it did. -/
def topHistoryUptoRow : OpenClaim := { program := "ytcgcakmpjeodfaa", sum := "4bbd2a5024b1c0ba200f5d43e3df5eb00921cd7ea15dbff5fd8b3c7aea4852f4", func := "fustian/fustiantop.TopHistory", spec := "topHistory", apart := false, narrowed := true }
def TopHistoryUptoSaid : Prop := topHistoryUptoRow.holds Try.pinned (OpenSpec.upto topHistorySpec)

/-- 'fustiankeep.SpansTaken', WHERE WHAT IT READS IS OF BULK AT MOST 1048576: true; the input reads as it did. -/
def spansTakenUptoRow : OpenClaim := { program := "ytcgcakmpjeodfaa", sum := "4bbd2a5024b1c0ba200f5d43e3df5eb00921cd7ea15dbff5fd8b3c7aea4852f4", func := "fustian/fustiankeep.SpansTaken", spec := "spansTaken", unfollowed := true, recurses := true, apart := false, narrowed := true }
def SpansTakenUptoSaid : Prop := spansTakenUptoRow.holds Try.pinned (OpenSpec.upto spansTakenSpec)

/-- 'fustiankeep.PosOrder', WHERE WHAT IT READS IS OF BULK AT MOST 1048576: true; the input reads as it did. -/
def posOrderUptoRow : OpenClaim := { program := "ytcgcakmpjeodfaa", sum := "4bbd2a5024b1c0ba200f5d43e3df5eb00921cd7ea15dbff5fd8b3c7aea4852f4", func := "fustian/fustiankeep.PosOrder", spec := "posOrder", inPlace := ["internal/bytealg.CountString", "internal/bytealg.IndexByteString", "internal/bytealg.IndexString"], named := ["internal/bytealg.MaxLen"], apart := false, narrowed := true }
def PosOrderUptoSaid : Prop := posOrderUptoRow.holds Try.pinned (OpenSpec.upto posOrderSpec)

/-- 'fustiankeep.PosParts', WHERE WHAT IT READS IS OF BULK AT MOST 1048576: true; the input reads as it did. -/
def posPartsUptoRow : OpenClaim := { program := "ytcgcakmpjeodfaa", sum := "4bbd2a5024b1c0ba200f5d43e3df5eb00921cd7ea15dbff5fd8b3c7aea4852f4", func := "fustian/fustiankeep.PosParts", spec := "posParts", inPlace := ["internal/bytealg.CountString", "internal/bytealg.IndexByteString", "internal/bytealg.IndexString"], named := ["internal/bytealg.MaxLen"], apart := false, narrowed := true }
def PosPartsUptoSaid : Prop := posPartsUptoRow.holds Try.pinned (OpenSpec.upto posPartsSpec)

/-- 'fustiankeep.PosBack', WHERE WHAT IT READS IS OF BULK AT MOST 1048576: true; the input reads as it did. -/
def posBackUptoRow : OpenClaim := { program := "ytcgcakmpjeodfaa", sum := "4bbd2a5024b1c0ba200f5d43e3df5eb00921cd7ea15dbff5fd8b3c7aea4852f4", func := "fustian/fustiankeep.PosBack", spec := "posBack", inPlace := ["internal/bytealg.CountString", "internal/bytealg.IndexByteString", "internal/bytealg.IndexString"], named := ["internal/bytealg.MaxLen"], apart := false, narrowed := true }
def PosBackUptoSaid : Prop := posBackUptoRow.holds Try.pinned (OpenSpec.upto posBackSpec)

/-- 'fustiankeep.LinesPlaces', WHERE WHAT IT READS IS OF BULK AT MOST 1048576: true; the input reads as it did. -/
def linesPlacesUptoRow : OpenClaim := { program := "ytcgcakmpjeodfaa", sum := "4bbd2a5024b1c0ba200f5d43e3df5eb00921cd7ea15dbff5fd8b3c7aea4852f4", func := "fustian/fustiankeep.LinesPlaces", spec := "linesPlaces", inPlace := ["internal/bytealg.CountString", "internal/bytealg.IndexByteString", "internal/bytealg.IndexString"], unfollowed := true, recurses := true, named := ["internal/bytealg.MaxLen"], apart := false, narrowed := true }
def LinesPlacesUptoSaid : Prop := linesPlacesUptoRow.holds Try.pinned (OpenSpec.upto linesPlacesSpec)

/-- 'fustiankeep.MarksSorted', WHERE WHAT IT READS IS OF BULK AT MOST 1048576: true; the input reads as it did. -/
def marksSortedUptoRow : OpenClaim := { program := "ytcgcakmpjeodfaa", sum := "4bbd2a5024b1c0ba200f5d43e3df5eb00921cd7ea15dbff5fd8b3c7aea4852f4", func := "fustian/fustiankeep.MarksSorted", spec := "marksSorted", unfollowed := true, recurses := true, apart := false, narrowed := true }
def MarksSortedUptoSaid : Prop := marksSortedUptoRow.holds Try.pinned (OpenSpec.upto marksSortedSpec)

/-- 'fustiankeep.SpansAlgebra', WHERE WHAT IT READS IS OF BULK AT MOST 1048576: true; the input reads as it did. -/
def spansAlgebraUptoRow : OpenClaim := { program := "ytcgcakmpjeodfaa", sum := "4bbd2a5024b1c0ba200f5d43e3df5eb00921cd7ea15dbff5fd8b3c7aea4852f4", func := "fustian/fustiankeep.SpansAlgebra", spec := "spansAlgebra", inPlace := ["slices.overlaps[fustian/api.Span]"], unfollowed := true, recurses := true, apart := false, narrowed := true }
def SpansAlgebraUptoSaid : Prop := spansAlgebraUptoRow.holds Try.pinned (OpenSpec.upto spansAlgebraSpec)

/-- 'fustiankeep.SpansTwo', WHERE WHAT IT READS IS OF BULK AT MOST 1048576: true; the input reads as it did. -/
def spansTwoUptoRow : OpenClaim := { program := "ytcgcakmpjeodfaa", sum := "4bbd2a5024b1c0ba200f5d43e3df5eb00921cd7ea15dbff5fd8b3c7aea4852f4", func := "fustian/fustiankeep.SpansTwo", spec := "spansTwo", inPlace := ["slices.overlaps[fustian/api.Span]"], unfollowed := true, recurses := true, apart := false, narrowed := true }
def SpansTwoUptoSaid : Prop := spansTwoUptoRow.holds Try.pinned (OpenSpec.upto spansTwoSpec)

/-- 'fustiankeep.NormApart', WHERE WHAT IT READS IS OF BULK AT MOST 1048576: true; the input reads as it did. -/
def normApartUptoRow : OpenClaim := { program := "ytcgcakmpjeodfaa", sum := "4bbd2a5024b1c0ba200f5d43e3df5eb00921cd7ea15dbff5fd8b3c7aea4852f4", func := "fustian/fustiankeep.NormApart", spec := "normApart", unfollowed := true, recurses := true, apart := false, narrowed := true }
def NormApartUptoSaid : Prop := normApartUptoRow.holds Try.pinned (OpenSpec.upto normApartSpec)

end Rows
end Go.Proofs.Ytcgcakmpjeodfaa
