/-
  No cell of these rows narrows 'for every input' (looked for: loops, veiled, ifaces, maps, wideKeys, modest, calm, conditions, laid).
  DERIVED. THE GIVEN ROWS OF THIS SEAT. 12 by the template 'for every input the law returns true; each argument reads behind the call as it read before'; 0 by the template 'total and deterministic' (their statements: YtafbkdgdhglakaaTotals.lean).
  GIVEN WITH THE SEED: the statements are not yours to turn. If you find one false, say at which input.
  Laid BY PROGRAM, IN A SANDBOX (cutbox-rows.mjs): the forced cells as the released guide's own fill.sh prints them over the translation e89435805efda7a4… (all of the seat's roots in one cut). By AI agents, Wed Nov 11 2026. No macro, syntax, notation, axiom, sorry.
-/
import Derived.Test.YtafbkdgdhglakaaChecked
import GoSem.Claim
import GoSem.ClaimJoined
import GoSem.ClaimMapViews
import Derived.JoinedTies
import Derived.KernelRfl
namespace Go.Proofs.Ytafbkdgdhglakaa
/- THE CELL 'sum', in the pinned program and in every row, IS THE sha256 OF THE DUMP (.gsa) THAT YtafbkdgdhglakaaProg.lean LOADS. Nothing in Lean hashes anything: it is a label: what it is worth is what the hold of that sum in a sandbox is worth. -/
noncomputable def Try.pinned : Pinned := { name := "ytafbkdgdhglakaa", sum := "e89435805efda7a48bb366f01e9490373b47449f4ab5be59cdf88700ad68c909", checked := Try.checked }
namespace Rows
def none {H : Type} : Left H := { results := [], args := [] }

/-- 'fustiankeep.PolyParts': WHATEVER THE INPUT: true; the input reads as it did. -/
def polyPartsSpec : ChangeSpec := { name := "polyParts", fn := fun _ => fun
  | [d1, d2, d3] => { results := [.lit (.bool true)], args := [d1, d2, d3] }
  | _ => none }
def polyPartsRow : OpenClaim := { program := "ytafbkdgdhglakaa", sum := "e89435805efda7a48bb366f01e9490373b47449f4ab5be59cdf88700ad68c909", func := "fustian/fustiankeep.PolyParts", spec := "polyParts", apart := false }
def PolyPartsSaid : Prop := polyPartsRow.holds Try.pinned (OpenSpec.ofChange polyPartsSpec)

/-- ITS FALSE NEIGHBOUR: 'it returns false'. Refute it at one input. -/
def polyPartsWrong : ChangeSpec := { name := "polyParts", fn := fun _ => fun
  | [d1, d2, d3] => { results := [.lit (.bool false)], args := [d1, d2, d3] }
  | _ => none }
def PolyPartsWrongFalsely : Prop := polyPartsRow.holds Try.pinned (OpenSpec.ofChange polyPartsWrong)

/-- 'fustiankeep.PolyPower': WHATEVER THE INPUT: true; the input reads as it did. -/
def polyPowerSpec : ChangeSpec := { name := "polyPower", fn := fun _ => fun
  | [d1, d2] => { results := [.lit (.bool true)], args := [d1, d2] }
  | _ => none }
def polyPowerRow : OpenClaim := { program := "ytafbkdgdhglakaa", sum := "e89435805efda7a48bb366f01e9490373b47449f4ab5be59cdf88700ad68c909", func := "fustian/fustiankeep.PolyPower", spec := "polyPower", apart := false }
def PolyPowerSaid : Prop := polyPowerRow.holds Try.pinned (OpenSpec.ofChange polyPowerSpec)

/-- ITS FALSE NEIGHBOUR: 'it returns false'. Refute it at one input. -/
def polyPowerWrong : ChangeSpec := { name := "polyPower", fn := fun _ => fun
  | [d1, d2] => { results := [.lit (.bool false)], args := [d1, d2] }
  | _ => none }
def PolyPowerWrongFalsely : Prop := polyPowerRow.holds Try.pinned (OpenSpec.ofChange polyPowerWrong)

/-- 'fustiankeep.WidenLines': WHATEVER THE INPUT: true; the input reads as it did. -/
def widenLinesSpec : ChangeSpec := { name := "widenLines", fn := fun _ => fun
  | [d1, d2, d3] => { results := [.lit (.bool true)], args := [d1, d2, d3] }
  | _ => none }
def widenLinesRow : OpenClaim := { program := "ytafbkdgdhglakaa", sum := "e89435805efda7a48bb366f01e9490373b47449f4ab5be59cdf88700ad68c909", func := "fustian/fustiankeep.WidenLines", spec := "widenLines", inPlace := ["internal/bytealg.IndexByteString"], apart := false }
def WidenLinesSaid : Prop := widenLinesRow.holds Try.pinned (OpenSpec.ofChange widenLinesSpec)

/-- ITS FALSE NEIGHBOUR: 'it returns false'. Refute it at one input. -/
def widenLinesWrong : ChangeSpec := { name := "widenLines", fn := fun _ => fun
  | [d1, d2, d3] => { results := [.lit (.bool false)], args := [d1, d2, d3] }
  | _ => none }
def WidenLinesWrongFalsely : Prop := widenLinesRow.holds Try.pinned (OpenSpec.ofChange widenLinesWrong)

/-- 'fustiankeep.WordsEdge': WHATEVER THE INPUT: true; the input reads as it did. -/
def wordsEdgeSpec : ChangeSpec := { name := "wordsEdge", fn := fun _ => fun
  | [d1, d2] => { results := [.lit (.bool true)], args := [d1, d2] }
  | _ => none }
def wordsEdgeRow : OpenClaim := { program := "ytafbkdgdhglakaa", sum := "e89435805efda7a48bb366f01e9490373b47449f4ab5be59cdf88700ad68c909", func := "fustian/fustiankeep.WordsEdge", spec := "wordsEdge", unfollowed := true, recurses := true, apart := false }
def WordsEdgeSaid : Prop := wordsEdgeRow.holds Try.pinned (OpenSpec.ofChange wordsEdgeSpec)

/-- ITS FALSE NEIGHBOUR: 'it returns false'. Refute it at one input. -/
def wordsEdgeWrong : ChangeSpec := { name := "wordsEdge", fn := fun _ => fun
  | [d1, d2] => { results := [.lit (.bool false)], args := [d1, d2] }
  | _ => none }
def WordsEdgeWrongFalsely : Prop := wordsEdgeRow.holds Try.pinned (OpenSpec.ofChange wordsEdgeWrong)

/-- 'fustiankeep.WrapRest': WHATEVER THE INPUT: true; the input reads as it did. -/
def wrapRestSpec : ChangeSpec := { name := "wrapRest", fn := fun _ => fun
  | [d1, d2, d3, d4] => { results := [.lit (.bool true)], args := [d1, d2, d3, d4] }
  | _ => none }
def wrapRestRow : OpenClaim := { program := "ytafbkdgdhglakaa", sum := "e89435805efda7a48bb366f01e9490373b47449f4ab5be59cdf88700ad68c909", func := "fustian/fustiankeep.WrapRest", spec := "wrapRest", unfollowed := true, recurses := true, apart := false }
def WrapRestSaid : Prop := wrapRestRow.holds Try.pinned (OpenSpec.ofChange wrapRestSpec)

/-- ITS FALSE NEIGHBOUR: 'it returns false'. Refute it at one input. -/
def wrapRestWrong : ChangeSpec := { name := "wrapRest", fn := fun _ => fun
  | [d1, d2, d3, d4] => { results := [.lit (.bool false)], args := [d1, d2, d3, d4] }
  | _ => none }
def WrapRestWrongFalsely : Prop := wrapRestRow.holds Try.pinned (OpenSpec.ofChange wrapRestWrong)

/-- 'fustiankeep.EditUndone': WHATEVER THE INPUT: true; the input reads as it did. -/
def editUndoneSpec : ChangeSpec := { name := "editUndone", fn := fun _ => fun
  | [d1, d2] => { results := [.lit (.bool true)], args := [d1, d2] }
  | _ => none }
def editUndoneRow : OpenClaim := { program := "ytafbkdgdhglakaa", sum := "e89435805efda7a48bb366f01e9490373b47449f4ab5be59cdf88700ad68c909", func := "fustian/fustiankeep.EditUndone", spec := "editUndone", apart := false }
def EditUndoneSaid : Prop := editUndoneRow.holds Try.pinned (OpenSpec.ofChange editUndoneSpec)

/-- ITS FALSE NEIGHBOUR: 'it returns false'. Refute it at one input. -/
def editUndoneWrong : ChangeSpec := { name := "editUndone", fn := fun _ => fun
  | [d1, d2] => { results := [.lit (.bool false)], args := [d1, d2] }
  | _ => none }
def EditUndoneWrongFalsely : Prop := editUndoneRow.holds Try.pinned (OpenSpec.ofChange editUndoneWrong)

/-- 'fustiankeep.MarksOrdered': WHATEVER THE INPUT: true; the input reads as it did. -/
def marksOrderedSpec : ChangeSpec := { name := "marksOrdered", fn := fun _ => fun
  | [d1, d2, d3] => { results := [.lit (.bool true)], args := [d1, d2, d3] }
  | _ => none }
def marksOrderedRow : OpenClaim := { program := "ytafbkdgdhglakaa", sum := "e89435805efda7a48bb366f01e9490373b47449f4ab5be59cdf88700ad68c909", func := "fustian/fustiankeep.MarksOrdered", spec := "marksOrdered", unfollowed := true, recurses := true, apart := false }
def MarksOrderedSaid : Prop := marksOrderedRow.holds Try.pinned (OpenSpec.ofChange marksOrderedSpec)

/-- ITS FALSE NEIGHBOUR: 'it returns false'. Refute it at one input. -/
def marksOrderedWrong : ChangeSpec := { name := "marksOrdered", fn := fun _ => fun
  | [d1, d2, d3] => { results := [.lit (.bool false)], args := [d1, d2, d3] }
  | _ => none }
def MarksOrderedWrongFalsely : Prop := marksOrderedRow.holds Try.pinned (OpenSpec.ofChange marksOrderedWrong)

/-- 'fustiankeep.MarksUndone': WHATEVER THE INPUT: true; the input reads as it did. -/
def marksUndoneSpec : ChangeSpec := { name := "marksUndone", fn := fun _ => fun
  | [d1, d2, d3] => { results := [.lit (.bool true)], args := [d1, d2, d3] }
  | _ => none }
def marksUndoneRow : OpenClaim := { program := "ytafbkdgdhglakaa", sum := "e89435805efda7a48bb366f01e9490373b47449f4ab5be59cdf88700ad68c909", func := "fustian/fustiankeep.MarksUndone", spec := "marksUndone", unfollowed := true, recurses := true, apart := false }
def MarksUndoneSaid : Prop := marksUndoneRow.holds Try.pinned (OpenSpec.ofChange marksUndoneSpec)

/-- ITS FALSE NEIGHBOUR: 'it returns false'. Refute it at one input. -/
def marksUndoneWrong : ChangeSpec := { name := "marksUndone", fn := fun _ => fun
  | [d1, d2, d3] => { results := [.lit (.bool false)], args := [d1, d2, d3] }
  | _ => none }
def MarksUndoneWrongFalsely : Prop := marksUndoneRow.holds Try.pinned (OpenSpec.ofChange marksUndoneWrong)

/-- 'fustiankeep.MarksParts': WHATEVER THE INPUT: true; the input reads as it did. -/
def marksPartsSpec : ChangeSpec := { name := "marksParts", fn := fun _ => fun
  | [d1, d2, d3, d4] => { results := [.lit (.bool true)], args := [d1, d2, d3, d4] }
  | _ => none }
def marksPartsRow : OpenClaim := { program := "ytafbkdgdhglakaa", sum := "e89435805efda7a48bb366f01e9490373b47449f4ab5be59cdf88700ad68c909", func := "fustian/fustiankeep.MarksParts", spec := "marksParts", unfollowed := true, recurses := true, apart := false }
def MarksPartsSaid : Prop := marksPartsRow.holds Try.pinned (OpenSpec.ofChange marksPartsSpec)

/-- ITS FALSE NEIGHBOUR: 'it returns false'. Refute it at one input. -/
def marksPartsWrong : ChangeSpec := { name := "marksParts", fn := fun _ => fun
  | [d1, d2, d3, d4] => { results := [.lit (.bool false)], args := [d1, d2, d3, d4] }
  | _ => none }
def MarksPartsWrongFalsely : Prop := marksPartsRow.holds Try.pinned (OpenSpec.ofChange marksPartsWrong)

/-- 'fustiankeep.EditCommutes': WHATEVER THE INPUT: true; the input reads as it did. -/
def editCommutesSpec : ChangeSpec := { name := "editCommutes", fn := fun _ => fun
  | [d1, d2, d3] => { results := [.lit (.bool true)], args := [d1, d2, d3] }
  | _ => none }
def editCommutesRow : OpenClaim := { program := "ytafbkdgdhglakaa", sum := "e89435805efda7a48bb366f01e9490373b47449f4ab5be59cdf88700ad68c909", func := "fustian/fustiankeep.EditCommutes", spec := "editCommutes", apart := false }
def EditCommutesSaid : Prop := editCommutesRow.holds Try.pinned (OpenSpec.ofChange editCommutesSpec)

/-- ITS FALSE NEIGHBOUR: 'it returns false'. Refute it at one input. -/
def editCommutesWrong : ChangeSpec := { name := "editCommutes", fn := fun _ => fun
  | [d1, d2, d3] => { results := [.lit (.bool false)], args := [d1, d2, d3] }
  | _ => none }
def EditCommutesWrongFalsely : Prop := editCommutesRow.holds Try.pinned (OpenSpec.ofChange editCommutesWrong)

/-- 'fustiankeep.MarksWithin': WHATEVER THE INPUT: true; the input reads as it did. -/
def marksWithinSpec : ChangeSpec := { name := "marksWithin", fn := fun _ => fun
  | [d1, d2, d3] => { results := [.lit (.bool true)], args := [d1, d2, d3] }
  | _ => none }
def marksWithinRow : OpenClaim := { program := "ytafbkdgdhglakaa", sum := "e89435805efda7a48bb366f01e9490373b47449f4ab5be59cdf88700ad68c909", func := "fustian/fustiankeep.MarksWithin", spec := "marksWithin", unfollowed := true, recurses := true, apart := false }
def MarksWithinSaid : Prop := marksWithinRow.holds Try.pinned (OpenSpec.ofChange marksWithinSpec)

/-- ITS FALSE NEIGHBOUR: 'it returns false'. Refute it at one input. -/
def marksWithinWrong : ChangeSpec := { name := "marksWithin", fn := fun _ => fun
  | [d1, d2, d3] => { results := [.lit (.bool false)], args := [d1, d2, d3] }
  | _ => none }
def MarksWithinWrongFalsely : Prop := marksWithinRow.holds Try.pinned (OpenSpec.ofChange marksWithinWrong)

/-- 'fustiankeep.LinesFollow': WHATEVER THE INPUT: true; the input reads as it did. -/
def linesFollowSpec : ChangeSpec := { name := "linesFollow", fn := fun _ => fun
  | [d1, d2] => { results := [.lit (.bool true)], args := [d1, d2] }
  | _ => none }
def linesFollowRow : OpenClaim := { program := "ytafbkdgdhglakaa", sum := "e89435805efda7a48bb366f01e9490373b47449f4ab5be59cdf88700ad68c909", func := "fustian/fustiankeep.LinesFollow", spec := "linesFollow", unfollowed := true, recurses := true, apart := false }
def LinesFollowSaid : Prop := linesFollowRow.holds Try.pinned (OpenSpec.ofChange linesFollowSpec)

/-- ITS FALSE NEIGHBOUR: 'it returns false'. Refute it at one input. -/
def linesFollowWrong : ChangeSpec := { name := "linesFollow", fn := fun _ => fun
  | [d1, d2] => { results := [.lit (.bool false)], args := [d1, d2] }
  | _ => none }
def LinesFollowWrongFalsely : Prop := linesFollowRow.holds Try.pinned (OpenSpec.ofChange linesFollowWrong)

/- THE SECOND FORM. 'bulk': how many values and letters a reading holds, each counted each time it is reached (what is shared counts as often as it is met; a slice's spare places count too). A statement '..UptoSaid' is the law's where the arguments, and the package variables that the reading takes, are together of bulk at most 1048576: NARROWER than '..Said'. Prove '..Said' where nothing that the law and all that it calls make is longer than what came in: it says more and counts as full. Else prove '..UptoSaid'. A law counts once. -/
mutual
def uptoBulk {H : Type} : DataW H → Nat
  | .lit (.string bytes) => bytes.length + 1
  | .lit _ => 1
  | .nil => 1
  | .ptr d => uptoBulk d + 1
  | .slice elems spare => uptoBulkAll elems + uptoBulkAll spare + 1
  | .agg parts => uptoBulkAll parts + 1
  | .iface _ d => uptoBulk d + 1
  | .map entries => uptoBulkEntries entries + 1
  | .held _ => 1
def uptoBulkAll {H : Type} : List (DataW H) → Nat
  | [] => 0
  | d :: r => uptoBulk d + uptoBulkAll r
def uptoBulkEntries {H : Type} : List (Lit × DataW H) → Nat
  | [] => 0
  | x :: r => uptoBulkEntry x + uptoBulkEntries r
def uptoBulkEntry {H : Type} : Lit × DataW H → Nat
  | (.string bytes, d) => bytes.length + uptoBulk d + 1
  | (_, d) => uptoBulk d + 1
 end
def uptoSmall : (H : Type) → List (DataW H) → Bool := fun _ ds => decide (uptoBulkAll ds ≤ 1048576)
def OpenSpec.upto (s : _root_.Go.ChangeSpec) : _root_.Go.OpenSpec := { _root_.Go.OpenSpec.ofChange s with cond := some uptoSmall }

/-- 'fustiankeep.PolyParts', WHERE WHAT IT READS IS OF BULK AT MOST 1048576: true; the input reads as it did. -/
def polyPartsUptoRow : OpenClaim := { program := "ytafbkdgdhglakaa", sum := "e89435805efda7a48bb366f01e9490373b47449f4ab5be59cdf88700ad68c909", func := "fustian/fustiankeep.PolyParts", spec := "polyParts", apart := false, narrowed := true }
def PolyPartsUptoSaid : Prop := polyPartsUptoRow.holds Try.pinned (OpenSpec.upto polyPartsSpec)

/-- 'fustiankeep.PolyPower', WHERE WHAT IT READS IS OF BULK AT MOST 1048576: true; the input reads as it did. -/
def polyPowerUptoRow : OpenClaim := { program := "ytafbkdgdhglakaa", sum := "e89435805efda7a48bb366f01e9490373b47449f4ab5be59cdf88700ad68c909", func := "fustian/fustiankeep.PolyPower", spec := "polyPower", apart := false, narrowed := true }
def PolyPowerUptoSaid : Prop := polyPowerUptoRow.holds Try.pinned (OpenSpec.upto polyPowerSpec)

/-- 'fustiankeep.WidenLines', WHERE WHAT IT READS IS OF BULK AT MOST 1048576: true; the input reads as it did. -/
def widenLinesUptoRow : OpenClaim := { program := "ytafbkdgdhglakaa", sum := "e89435805efda7a48bb366f01e9490373b47449f4ab5be59cdf88700ad68c909", func := "fustian/fustiankeep.WidenLines", spec := "widenLines", inPlace := ["internal/bytealg.IndexByteString"], apart := false, narrowed := true }
def WidenLinesUptoSaid : Prop := widenLinesUptoRow.holds Try.pinned (OpenSpec.upto widenLinesSpec)

/-- 'fustiankeep.WordsEdge', WHERE WHAT IT READS IS OF BULK AT MOST 1048576: true; the input reads as it did. -/
def wordsEdgeUptoRow : OpenClaim := { program := "ytafbkdgdhglakaa", sum := "e89435805efda7a48bb366f01e9490373b47449f4ab5be59cdf88700ad68c909", func := "fustian/fustiankeep.WordsEdge", spec := "wordsEdge", unfollowed := true, recurses := true, apart := false, narrowed := true }
def WordsEdgeUptoSaid : Prop := wordsEdgeUptoRow.holds Try.pinned (OpenSpec.upto wordsEdgeSpec)

/-- 'fustiankeep.WrapRest', WHERE WHAT IT READS IS OF BULK AT MOST 1048576: true; the input reads as it did. -/
def wrapRestUptoRow : OpenClaim := { program := "ytafbkdgdhglakaa", sum := "e89435805efda7a48bb366f01e9490373b47449f4ab5be59cdf88700ad68c909", func := "fustian/fustiankeep.WrapRest", spec := "wrapRest", unfollowed := true, recurses := true, apart := false, narrowed := true }
def WrapRestUptoSaid : Prop := wrapRestUptoRow.holds Try.pinned (OpenSpec.upto wrapRestSpec)

/-- 'fustiankeep.EditUndone', WHERE WHAT IT READS IS OF BULK AT MOST 1048576: true; the input reads as it did. -/
def editUndoneUptoRow : OpenClaim := { program := "ytafbkdgdhglakaa", sum := "e89435805efda7a48bb366f01e9490373b47449f4ab5be59cdf88700ad68c909", func := "fustian/fustiankeep.EditUndone", spec := "editUndone", apart := false, narrowed := true }
def EditUndoneUptoSaid : Prop := editUndoneUptoRow.holds Try.pinned (OpenSpec.upto editUndoneSpec)

/-- 'fustiankeep.MarksOrdered', WHERE WHAT IT READS IS OF BULK AT MOST 1048576: true; the input reads as it did. -/
def marksOrderedUptoRow : OpenClaim := { program := "ytafbkdgdhglakaa", sum := "e89435805efda7a48bb366f01e9490373b47449f4ab5be59cdf88700ad68c909", func := "fustian/fustiankeep.MarksOrdered", spec := "marksOrdered", unfollowed := true, recurses := true, apart := false, narrowed := true }
def MarksOrderedUptoSaid : Prop := marksOrderedUptoRow.holds Try.pinned (OpenSpec.upto marksOrderedSpec)

/-- 'fustiankeep.MarksUndone', WHERE WHAT IT READS IS OF BULK AT MOST 1048576: true; the input reads as it did. -/
def marksUndoneUptoRow : OpenClaim := { program := "ytafbkdgdhglakaa", sum := "e89435805efda7a48bb366f01e9490373b47449f4ab5be59cdf88700ad68c909", func := "fustian/fustiankeep.MarksUndone", spec := "marksUndone", unfollowed := true, recurses := true, apart := false, narrowed := true }
def MarksUndoneUptoSaid : Prop := marksUndoneUptoRow.holds Try.pinned (OpenSpec.upto marksUndoneSpec)

/-- 'fustiankeep.MarksParts', WHERE WHAT IT READS IS OF BULK AT MOST 1048576: true; the input reads as it did. -/
def marksPartsUptoRow : OpenClaim := { program := "ytafbkdgdhglakaa", sum := "e89435805efda7a48bb366f01e9490373b47449f4ab5be59cdf88700ad68c909", func := "fustian/fustiankeep.MarksParts", spec := "marksParts", unfollowed := true, recurses := true, apart := false, narrowed := true }
def MarksPartsUptoSaid : Prop := marksPartsUptoRow.holds Try.pinned (OpenSpec.upto marksPartsSpec)

/-- 'fustiankeep.EditCommutes', WHERE WHAT IT READS IS OF BULK AT MOST 1048576: true; the input reads as it did. -/
def editCommutesUptoRow : OpenClaim := { program := "ytafbkdgdhglakaa", sum := "e89435805efda7a48bb366f01e9490373b47449f4ab5be59cdf88700ad68c909", func := "fustian/fustiankeep.EditCommutes", spec := "editCommutes", apart := false, narrowed := true }
def EditCommutesUptoSaid : Prop := editCommutesUptoRow.holds Try.pinned (OpenSpec.upto editCommutesSpec)

/-- 'fustiankeep.MarksWithin', WHERE WHAT IT READS IS OF BULK AT MOST 1048576: true; the input reads as it did. -/
def marksWithinUptoRow : OpenClaim := { program := "ytafbkdgdhglakaa", sum := "e89435805efda7a48bb366f01e9490373b47449f4ab5be59cdf88700ad68c909", func := "fustian/fustiankeep.MarksWithin", spec := "marksWithin", unfollowed := true, recurses := true, apart := false, narrowed := true }
def MarksWithinUptoSaid : Prop := marksWithinUptoRow.holds Try.pinned (OpenSpec.upto marksWithinSpec)

/-- 'fustiankeep.LinesFollow', WHERE WHAT IT READS IS OF BULK AT MOST 1048576: true; the input reads as it did. -/
def linesFollowUptoRow : OpenClaim := { program := "ytafbkdgdhglakaa", sum := "e89435805efda7a48bb366f01e9490373b47449f4ab5be59cdf88700ad68c909", func := "fustian/fustiankeep.LinesFollow", spec := "linesFollow", unfollowed := true, recurses := true, apart := false, narrowed := true }
def LinesFollowUptoSaid : Prop := linesFollowUptoRow.holds Try.pinned (OpenSpec.upto linesFollowSpec)

end Rows
end Go.Proofs.Ytafbkdgdhglakaa
