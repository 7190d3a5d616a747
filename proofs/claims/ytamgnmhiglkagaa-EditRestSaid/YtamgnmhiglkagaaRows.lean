/-
  No cell of these rows narrows 'for every input' (looked for: loops, veiled, ifaces, maps, wideKeys, modest, calm, conditions, laid).
  DERIVED. THE GIVEN ROWS OF THIS SEAT. 12 by the template 'for every input the law returns true; each argument reads behind the call as it read before'; 0 by the template 'total and deterministic' (their statements: YtamgnmhiglkagaaTotals.lean).
  GIVEN WITH THE SEED: the statements are not yours to turn. If you find one false, say at which input.
  Laid BY PROGRAM, IN A SANDBOX (cutbox-rows.mjs): the forced cells as the released guide's own fill.sh prints them over the translation bdd31a0e6753fd00… (all of the seat's roots in one cut). By AI agents, Wed Nov 11 2026. No macro, syntax, notation, axiom, sorry.
-/
import Derived.Test.YtamgnmhiglkagaaChecked
import GoSem.Claim
import GoSem.ClaimJoined
import GoSem.ClaimMapViews
import Derived.JoinedTies
import Derived.KernelRfl
namespace Go.Proofs.Ytamgnmhiglkagaa
/- THE CELL 'sum', in the pinned program and in every row, IS THE sha256 OF THE DUMP (.gsa) THAT YtamgnmhiglkagaaProg.lean LOADS. Nothing in Lean hashes anything: it is a label: what it is worth is what the hold of that sum in a sandbox is worth. -/
noncomputable def Try.pinned : Pinned := { name := "ytamgnmhiglkagaa", sum := "bdd31a0e6753fd00527a33586cafe0e5f429dc23fcb679b568f9c6c267f10e92", checked := Try.checked }
namespace Rows
def none {H : Type} : Left H := { results := [], args := [] }

/-- 'fustiankeep.PolyByte': WHATEVER THE INPUT: true; the input reads as it did. -/
def polyByteSpec : ChangeSpec := { name := "polyByte", fn := fun _ => fun
  | [d1, d2, d3, d4, d5] => { results := [.lit (.bool true)], args := [d1, d2, d3, d4, d5] }
  | _ => none }
def polyByteRow : OpenClaim := { program := "ytamgnmhiglkagaa", sum := "bdd31a0e6753fd00527a33586cafe0e5f429dc23fcb679b568f9c6c267f10e92", func := "fustian/fustiankeep.PolyByte", spec := "polyByte", apart := false }
def PolyByteSaid : Prop := polyByteRow.holds Try.pinned (OpenSpec.ofChange polyByteSpec)

/-- ITS FALSE NEIGHBOUR: 'it returns false'. Refute it at one input. -/
def polyByteWrong : ChangeSpec := { name := "polyByte", fn := fun _ => fun
  | [d1, d2, d3, d4, d5] => { results := [.lit (.bool false)], args := [d1, d2, d3, d4, d5] }
  | _ => none }
def PolyByteWrongFalsely : Prop := polyByteRow.holds Try.pinned (OpenSpec.ofChange polyByteWrong)

/-- 'fustiankeep.LinesJoin': WHATEVER THE INPUT: true; the input reads as it did. -/
def linesJoinSpec : ChangeSpec := { name := "linesJoin", fn := fun _ => fun
  | [d1, d2] => { results := [.lit (.bool true)], args := [d1, d2] }
  | _ => none }
def linesJoinRow : OpenClaim := { program := "ytamgnmhiglkagaa", sum := "bdd31a0e6753fd00527a33586cafe0e5f429dc23fcb679b568f9c6c267f10e92", func := "fustian/fustiankeep.LinesJoin", spec := "linesJoin", apart := false }
def LinesJoinSaid : Prop := linesJoinRow.holds Try.pinned (OpenSpec.ofChange linesJoinSpec)

/-- ITS FALSE NEIGHBOUR: 'it returns false'. Refute it at one input. -/
def linesJoinWrong : ChangeSpec := { name := "linesJoin", fn := fun _ => fun
  | [d1, d2] => { results := [.lit (.bool false)], args := [d1, d2] }
  | _ => none }
def LinesJoinWrongFalsely : Prop := linesJoinRow.holds Try.pinned (OpenSpec.ofChange linesJoinWrong)

/-- 'fustiankeep.PolyParts': WHATEVER THE INPUT: true; the input reads as it did. -/
def polyPartsSpec : ChangeSpec := { name := "polyParts", fn := fun _ => fun
  | [d1, d2, d3] => { results := [.lit (.bool true)], args := [d1, d2, d3] }
  | _ => none }
def polyPartsRow : OpenClaim := { program := "ytamgnmhiglkagaa", sum := "bdd31a0e6753fd00527a33586cafe0e5f429dc23fcb679b568f9c6c267f10e92", func := "fustian/fustiankeep.PolyParts", spec := "polyParts", apart := false }
def PolyPartsSaid : Prop := polyPartsRow.holds Try.pinned (OpenSpec.ofChange polyPartsSpec)

/-- ITS FALSE NEIGHBOUR: 'it returns false'. Refute it at one input. -/
def polyPartsWrong : ChangeSpec := { name := "polyParts", fn := fun _ => fun
  | [d1, d2, d3] => { results := [.lit (.bool false)], args := [d1, d2, d3] }
  | _ => none }
def PolyPartsWrongFalsely : Prop := polyPartsRow.holds Try.pinned (OpenSpec.ofChange polyPartsWrong)

/-- 'fustiankeep.PolyPower': WHATEVER THE INPUT: true; the input reads as it did. -/
def polyPowerSpec : ChangeSpec := { name := "polyPower", fn := fun _ => fun
  | [d1, d2] => { results := [.lit (.bool true)], args := [d1, d2] }
  | _ => none }
def polyPowerRow : OpenClaim := { program := "ytamgnmhiglkagaa", sum := "bdd31a0e6753fd00527a33586cafe0e5f429dc23fcb679b568f9c6c267f10e92", func := "fustian/fustiankeep.PolyPower", spec := "polyPower", apart := false }
def PolyPowerSaid : Prop := polyPowerRow.holds Try.pinned (OpenSpec.ofChange polyPowerSpec)

/-- ITS FALSE NEIGHBOUR: 'it returns false'. Refute it at one input. -/
def polyPowerWrong : ChangeSpec := { name := "polyPower", fn := fun _ => fun
  | [d1, d2] => { results := [.lit (.bool false)], args := [d1, d2] }
  | _ => none }
def PolyPowerWrongFalsely : Prop := polyPowerRow.holds Try.pinned (OpenSpec.ofChange polyPowerWrong)

/-- 'fustiankeep.EditParts': WHATEVER THE INPUT: true; the input reads as it did. -/
def editPartsSpec : ChangeSpec := { name := "editParts", fn := fun _ => fun
  | [d1, d2, d3] => { results := [.lit (.bool true)], args := [d1, d2, d3] }
  | _ => none }
def editPartsRow : OpenClaim := { program := "ytamgnmhiglkagaa", sum := "bdd31a0e6753fd00527a33586cafe0e5f429dc23fcb679b568f9c6c267f10e92", func := "fustian/fustiankeep.EditParts", spec := "editParts", apart := false }
def EditPartsSaid : Prop := editPartsRow.holds Try.pinned (OpenSpec.ofChange editPartsSpec)

/-- ITS FALSE NEIGHBOUR: 'it returns false'. Refute it at one input. -/
def editPartsWrong : ChangeSpec := { name := "editParts", fn := fun _ => fun
  | [d1, d2, d3] => { results := [.lit (.bool false)], args := [d1, d2, d3] }
  | _ => none }
def EditPartsWrongFalsely : Prop := editPartsRow.holds Try.pinned (OpenSpec.ofChange editPartsWrong)

/-- 'fustiankeep.EditRest': WHATEVER THE INPUT: true; the input reads as it did. -/
def editRestSpec : ChangeSpec := { name := "editRest", fn := fun _ => fun
  | [d1, d2] => { results := [.lit (.bool true)], args := [d1, d2] }
  | _ => none }
def editRestRow : OpenClaim := { program := "ytamgnmhiglkagaa", sum := "bdd31a0e6753fd00527a33586cafe0e5f429dc23fcb679b568f9c6c267f10e92", func := "fustian/fustiankeep.EditRest", spec := "editRest", apart := false }
def EditRestSaid : Prop := editRestRow.holds Try.pinned (OpenSpec.ofChange editRestSpec)

/-- ITS FALSE NEIGHBOUR: 'it returns false'. Refute it at one input. -/
def editRestWrong : ChangeSpec := { name := "editRest", fn := fun _ => fun
  | [d1, d2] => { results := [.lit (.bool false)], args := [d1, d2] }
  | _ => none }
def EditRestWrongFalsely : Prop := editRestRow.holds Try.pinned (OpenSpec.ofChange editRestWrong)

/-- 'fustiankeep.WidenLines': WHATEVER THE INPUT: true; the input reads as it did. -/
def widenLinesSpec : ChangeSpec := { name := "widenLines", fn := fun _ => fun
  | [d1, d2, d3] => { results := [.lit (.bool true)], args := [d1, d2, d3] }
  | _ => none }
def widenLinesRow : OpenClaim := { program := "ytamgnmhiglkagaa", sum := "bdd31a0e6753fd00527a33586cafe0e5f429dc23fcb679b568f9c6c267f10e92", func := "fustian/fustiankeep.WidenLines", spec := "widenLines", inPlace := ["internal/bytealg.IndexByteString"], apart := false }
def WidenLinesSaid : Prop := widenLinesRow.holds Try.pinned (OpenSpec.ofChange widenLinesSpec)

/-- ITS FALSE NEIGHBOUR: 'it returns false'. Refute it at one input. -/
def widenLinesWrong : ChangeSpec := { name := "widenLines", fn := fun _ => fun
  | [d1, d2, d3] => { results := [.lit (.bool false)], args := [d1, d2, d3] }
  | _ => none }
def WidenLinesWrongFalsely : Prop := widenLinesRow.holds Try.pinned (OpenSpec.ofChange widenLinesWrong)

/-- 'fustiankeep.WordsEdge': WHATEVER THE INPUT: true; the input reads as it did. -/
def wordsEdgeSpec : ChangeSpec := { name := "wordsEdge", fn := fun _ => fun
  | [d1, d2] => { results := [.lit (.bool true)], args := [d1, d2] }
  | _ => none }
def wordsEdgeRow : OpenClaim := { program := "ytamgnmhiglkagaa", sum := "bdd31a0e6753fd00527a33586cafe0e5f429dc23fcb679b568f9c6c267f10e92", func := "fustian/fustiankeep.WordsEdge", spec := "wordsEdge", unfollowed := true, recurses := true, apart := false }
def WordsEdgeSaid : Prop := wordsEdgeRow.holds Try.pinned (OpenSpec.ofChange wordsEdgeSpec)

/-- ITS FALSE NEIGHBOUR: 'it returns false'. Refute it at one input. -/
def wordsEdgeWrong : ChangeSpec := { name := "wordsEdge", fn := fun _ => fun
  | [d1, d2] => { results := [.lit (.bool false)], args := [d1, d2] }
  | _ => none }
def WordsEdgeWrongFalsely : Prop := wordsEdgeRow.holds Try.pinned (OpenSpec.ofChange wordsEdgeWrong)

/-- 'fustiankeep.WrapRest': WHATEVER THE INPUT: true; the input reads as it did. -/
def wrapRestSpec : ChangeSpec := { name := "wrapRest", fn := fun _ => fun
  | [d1, d2, d3, d4] => { results := [.lit (.bool true)], args := [d1, d2, d3, d4] }
  | _ => none }
def wrapRestRow : OpenClaim := { program := "ytamgnmhiglkagaa", sum := "bdd31a0e6753fd00527a33586cafe0e5f429dc23fcb679b568f9c6c267f10e92", func := "fustian/fustiankeep.WrapRest", spec := "wrapRest", unfollowed := true, recurses := true, apart := false }
def WrapRestSaid : Prop := wrapRestRow.holds Try.pinned (OpenSpec.ofChange wrapRestSpec)

/-- ITS FALSE NEIGHBOUR: 'it returns false'. Refute it at one input. -/
def wrapRestWrong : ChangeSpec := { name := "wrapRest", fn := fun _ => fun
  | [d1, d2, d3, d4] => { results := [.lit (.bool false)], args := [d1, d2, d3, d4] }
  | _ => none }
def WrapRestWrongFalsely : Prop := wrapRestRow.holds Try.pinned (OpenSpec.ofChange wrapRestWrong)

/-- 'fustiankeep.FuzzyMetric': WHATEVER THE INPUT: true; the input reads as it did. -/
def fuzzyMetricSpec : ChangeSpec := { name := "fuzzyMetric", fn := fun _ => fun
  | [d1, d2, d3] => { results := [.lit (.bool true)], args := [d1, d2, d3] }
  | _ => none }
def fuzzyMetricRow : OpenClaim := { program := "ytamgnmhiglkagaa", sum := "bdd31a0e6753fd00527a33586cafe0e5f429dc23fcb679b568f9c6c267f10e92", func := "fustian/fustiankeep.FuzzyMetric", spec := "fuzzyMetric", unfollowed := true, recurses := true, apart := false }
def FuzzyMetricSaid : Prop := fuzzyMetricRow.holds Try.pinned (OpenSpec.ofChange fuzzyMetricSpec)

/-- ITS FALSE NEIGHBOUR: 'it returns false'. Refute it at one input. -/
def fuzzyMetricWrong : ChangeSpec := { name := "fuzzyMetric", fn := fun _ => fun
  | [d1, d2, d3] => { results := [.lit (.bool false)], args := [d1, d2, d3] }
  | _ => none }
def FuzzyMetricWrongFalsely : Prop := fuzzyMetricRow.holds Try.pinned (OpenSpec.ofChange fuzzyMetricWrong)

/-- 'fustiankeep.FuzzyCommon': WHATEVER THE INPUT: true; the input reads as it did. -/
def fuzzyCommonSpec : ChangeSpec := { name := "fuzzyCommon", fn := fun _ => fun
  | [d1, d2, d3, d4, d5] => { results := [.lit (.bool true)], args := [d1, d2, d3, d4, d5] }
  | _ => none }
def fuzzyCommonRow : OpenClaim := { program := "ytamgnmhiglkagaa", sum := "bdd31a0e6753fd00527a33586cafe0e5f429dc23fcb679b568f9c6c267f10e92", func := "fustian/fustiankeep.FuzzyCommon", spec := "fuzzyCommon", unfollowed := true, recurses := true, apart := false }
def FuzzyCommonSaid : Prop := fuzzyCommonRow.holds Try.pinned (OpenSpec.ofChange fuzzyCommonSpec)

/-- ITS FALSE NEIGHBOUR: 'it returns false'. Refute it at one input. -/
def fuzzyCommonWrong : ChangeSpec := { name := "fuzzyCommon", fn := fun _ => fun
  | [d1, d2, d3, d4, d5] => { results := [.lit (.bool false)], args := [d1, d2, d3, d4, d5] }
  | _ => none }
def FuzzyCommonWrongFalsely : Prop := fuzzyCommonRow.holds Try.pinned (OpenSpec.ofChange fuzzyCommonWrong)

/-- 'fustiankeep.EditUndone': WHATEVER THE INPUT: true; the input reads as it did. -/
def editUndoneSpec : ChangeSpec := { name := "editUndone", fn := fun _ => fun
  | [d1, d2] => { results := [.lit (.bool true)], args := [d1, d2] }
  | _ => none }
def editUndoneRow : OpenClaim := { program := "ytamgnmhiglkagaa", sum := "bdd31a0e6753fd00527a33586cafe0e5f429dc23fcb679b568f9c6c267f10e92", func := "fustian/fustiankeep.EditUndone", spec := "editUndone", apart := false }
def EditUndoneSaid : Prop := editUndoneRow.holds Try.pinned (OpenSpec.ofChange editUndoneSpec)

/-- ITS FALSE NEIGHBOUR: 'it returns false'. Refute it at one input. -/
def editUndoneWrong : ChangeSpec := { name := "editUndone", fn := fun _ => fun
  | [d1, d2] => { results := [.lit (.bool false)], args := [d1, d2] }
  | _ => none }
def EditUndoneWrongFalsely : Prop := editUndoneRow.holds Try.pinned (OpenSpec.ofChange editUndoneWrong)

/- THE SECOND FORM. 'bulk': how many values and letters a reading holds, each counted each time it is reached (what is shared counts as often as it is met; a slice's spare places count too). A statement '..UptoSaid' is the law's where the arguments, and the package variables that the reading takes, are together of bulk at most 1048576: NARROWER than '..Said'. Prove '..Said' where nothing that the law and all that it calls make is longer than what came in: it says more and counts as full. Else prove '..UptoSaid'. A law counts once. -/
mutual
def uptoBulk {H : Type} : DataW H → Nat
  | .lit (.string bytes) => bytes.length + 1
  | .lit _ => 1
  | .nil => 1
  | .ptr d => uptoBulk d + 1
  | .slice elems spare => uptoBulkAll elems + uptoBulkAll spare + 1
  | .agg parts => uptoBulkAll parts + 1
  | .iface _ d => uptoBulk d + 1
  | .map entries => uptoBulkEntries entries + 1
  | .held _ => 1
def uptoBulkAll {H : Type} : List (DataW H) → Nat
  | [] => 0
  | d :: r => uptoBulk d + uptoBulkAll r
def uptoBulkEntries {H : Type} : List (Lit × DataW H) → Nat
  | [] => 0
  | x :: r => uptoBulkEntry x + uptoBulkEntries r
def uptoBulkEntry {H : Type} : Lit × DataW H → Nat
  | (.string bytes, d) => bytes.length + uptoBulk d + 1
  | (_, d) => uptoBulk d + 1
 end
def uptoSmall : (H : Type) → List (DataW H) → Bool := fun _ ds => decide (uptoBulkAll ds ≤ 1048576)
def OpenSpec.upto (s : _root_.Go.ChangeSpec) : _root_.Go.OpenSpec := { _root_.Go.OpenSpec.ofChange s with cond := some uptoSmall }

/-- 'fustiankeep.PolyByte', WHERE WHAT IT READS IS OF BULK AT MOST 1048576: true; the input reads as it did. -/
def polyByteUptoRow : OpenClaim := { program := "ytamgnmhiglkagaa", sum := "bdd31a0e6753fd00527a33586cafe0e5f429dc23fcb679b568f9c6c267f10e92", func := "fustian/fustiankeep.PolyByte", spec := "polyByte", apart := false, narrowed := true }
def PolyByteUptoSaid : Prop := polyByteUptoRow.holds Try.pinned (OpenSpec.upto polyByteSpec)

/-- 'fustiankeep.LinesJoin', WHERE WHAT IT READS IS OF BULK AT MOST 1048576: true; the input reads as it did. -/
def linesJoinUptoRow : OpenClaim := { program := "ytamgnmhiglkagaa", sum := "bdd31a0e6753fd00527a33586cafe0e5f429dc23fcb679b568f9c6c267f10e92", func := "fustian/fustiankeep.LinesJoin", spec := "linesJoin", apart := false, narrowed := true }
def LinesJoinUptoSaid : Prop := linesJoinUptoRow.holds Try.pinned (OpenSpec.upto linesJoinSpec)

/-- 'fustiankeep.PolyParts', WHERE WHAT IT READS IS OF BULK AT MOST 1048576: true; the input reads as it did. -/
def polyPartsUptoRow : OpenClaim := { program := "ytamgnmhiglkagaa", sum := "bdd31a0e6753fd00527a33586cafe0e5f429dc23fcb679b568f9c6c267f10e92", func := "fustian/fustiankeep.PolyParts", spec := "polyParts", apart := false, narrowed := true }
def PolyPartsUptoSaid : Prop := polyPartsUptoRow.holds Try.pinned (OpenSpec.upto polyPartsSpec)

/-- 'fustiankeep.PolyPower', WHERE WHAT IT READS IS OF BULK AT MOST 1048576: true; the input reads as it did. -/
def polyPowerUptoRow : OpenClaim := { program := "ytamgnmhiglkagaa", sum := "bdd31a0e6753fd00527a33586cafe0e5f429dc23fcb679b568f9c6c267f10e92", func := "fustian/fustiankeep.PolyPower", spec := "polyPower", apart := false, narrowed := true }
def PolyPowerUptoSaid : Prop := polyPowerUptoRow.holds Try.pinned (OpenSpec.upto polyPowerSpec)

/-- 'fustiankeep.EditParts', WHERE WHAT IT READS IS OF BULK AT MOST 1048576: true; the input reads as it did. -/
def editPartsUptoRow : OpenClaim := { program := "ytamgnmhiglkagaa", sum := "bdd31a0e6753fd00527a33586cafe0e5f429dc23fcb679b568f9c6c267f10e92", func := "fustian/fustiankeep.EditParts", spec := "editParts", apart := false, narrowed := true }
def EditPartsUptoSaid : Prop := editPartsUptoRow.holds Try.pinned (OpenSpec.upto editPartsSpec)

/-- 'fustiankeep.EditRest', WHERE WHAT IT READS IS OF BULK AT MOST 1048576: true; the input reads as it did. -/
def editRestUptoRow : OpenClaim := { program := "ytamgnmhiglkagaa", sum := "bdd31a0e6753fd00527a33586cafe0e5f429dc23fcb679b568f9c6c267f10e92", func := "fustian/fustiankeep.EditRest", spec := "editRest", apart := false, narrowed := true }
def EditRestUptoSaid : Prop := editRestUptoRow.holds Try.pinned (OpenSpec.upto editRestSpec)

/-- 'fustiankeep.WidenLines', WHERE WHAT IT READS IS OF BULK AT MOST 1048576: true; the input reads as it did. -/
def widenLinesUptoRow : OpenClaim := { program := "ytamgnmhiglkagaa", sum := "bdd31a0e6753fd00527a33586cafe0e5f429dc23fcb679b568f9c6c267f10e92", func := "fustian/fustiankeep.WidenLines", spec := "widenLines", inPlace := ["internal/bytealg.IndexByteString"], apart := false, narrowed := true }
def WidenLinesUptoSaid : Prop := widenLinesUptoRow.holds Try.pinned (OpenSpec.upto widenLinesSpec)

/-- 'fustiankeep.WordsEdge', WHERE WHAT IT READS IS OF BULK AT MOST 1048576: true; the input reads as it did. -/
def wordsEdgeUptoRow : OpenClaim := { program := "ytamgnmhiglkagaa", sum := "bdd31a0e6753fd00527a33586cafe0e5f429dc23fcb679b568f9c6c267f10e92", func := "fustian/fustiankeep.WordsEdge", spec := "wordsEdge", unfollowed := true, recurses := true, apart := false, narrowed := true }
def WordsEdgeUptoSaid : Prop := wordsEdgeUptoRow.holds Try.pinned (OpenSpec.upto wordsEdgeSpec)

/-- 'fustiankeep.WrapRest', WHERE WHAT IT READS IS OF BULK AT MOST 1048576: true; the input reads as it did. -/
def wrapRestUptoRow : OpenClaim := { program := "ytamgnmhiglkagaa", sum := "bdd31a0e6753fd00527a33586cafe0e5f429dc23fcb679b568f9c6c267f10e92", func := "fustian/fustiankeep.WrapRest", spec := "wrapRest", unfollowed := true, recurses := true, apart := false, narrowed := true }
def WrapRestUptoSaid : Prop := wrapRestUptoRow.holds Try.pinned (OpenSpec.upto wrapRestSpec)

/-- 'fustiankeep.FuzzyMetric', WHERE WHAT IT READS IS OF BULK AT MOST 1048576: true; the input reads as it did. -/
def fuzzyMetricUptoRow : OpenClaim := { program := "ytamgnmhiglkagaa", sum := "bdd31a0e6753fd00527a33586cafe0e5f429dc23fcb679b568f9c6c267f10e92", func := "fustian/fustiankeep.FuzzyMetric", spec := "fuzzyMetric", unfollowed := true, recurses := true, apart := false, narrowed := true }
def FuzzyMetricUptoSaid : Prop := fuzzyMetricUptoRow.holds Try.pinned (OpenSpec.upto fuzzyMetricSpec)

/-- 'fustiankeep.FuzzyCommon', WHERE WHAT IT READS IS OF BULK AT MOST 1048576: true; the input reads as it did. -/
def fuzzyCommonUptoRow : OpenClaim := { program := "ytamgnmhiglkagaa", sum := "bdd31a0e6753fd00527a33586cafe0e5f429dc23fcb679b568f9c6c267f10e92", func := "fustian/fustiankeep.FuzzyCommon", spec := "fuzzyCommon", unfollowed := true, recurses := true, apart := false, narrowed := true }
def FuzzyCommonUptoSaid : Prop := fuzzyCommonUptoRow.holds Try.pinned (OpenSpec.upto fuzzyCommonSpec)

/-- 'fustiankeep.EditUndone', WHERE WHAT IT READS IS OF BULK AT MOST 1048576: true; the input reads as it did. -/
def editUndoneUptoRow : OpenClaim := { program := "ytamgnmhiglkagaa", sum := "bdd31a0e6753fd00527a33586cafe0e5f429dc23fcb679b568f9c6c267f10e92", func := "fustian/fustiankeep.EditUndone", spec := "editUndone", apart := false, narrowed := true }
def EditUndoneUptoSaid : Prop := editUndoneUptoRow.holds Try.pinned (OpenSpec.upto editUndoneSpec)

end Rows
end Go.Proofs.Ytamgnmhiglkagaa
