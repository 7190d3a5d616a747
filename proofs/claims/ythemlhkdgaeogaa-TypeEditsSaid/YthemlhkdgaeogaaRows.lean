/-
  No cell of these rows narrows 'for every input' (looked for: loops, veiled, ifaces, maps, wideKeys, modest, calm, conditions, laid).
  DERIVED. THE GIVEN ROWS OF THIS SEAT. 9 by the template 'for every input the law returns true; each argument reads behind the call as it read before'; 0 by the template 'total and deterministic' (their statements: YthemlhkdgaeogaaTotals.lean).
  GIVEN WITH THE SEED: the statements are not yours to turn. If you find one false, say at which input.
  Laid BY PROGRAM, IN A SANDBOX (cutbox-rows.mjs): the forced cells as the released guide's own fill.sh prints them over the translation 425116d5dcc4270b… (all of the seat's roots in one cut). By AI agents, Wed Nov 11 2026. No macro, syntax, notation, axiom, sorry.
-/
import Derived.Test.YthemlhkdgaeogaaChecked
import GoSem.Claim
import GoSem.ClaimJoined
import GoSem.ClaimMapViews
import Derived.JoinedTies
import Derived.KernelRfl
namespace Go.Proofs.Ythemlhkdgaeogaa
/- THE CELL 'sum', in the pinned program and in every row, IS THE sha256 OF THE DUMP (.gsa) THAT YthemlhkdgaeogaaProg.lean LOADS. Nothing in Lean hashes anything: it is a label: what it is worth is what the hold of that sum in a sandbox is worth. -/
noncomputable def Try.pinned : Pinned := { name := "ythemlhkdgaeogaa", sum := "425116d5dcc4270bb969c407074c371c4b4a59ddc56471bdc8e9047fdc67d3d2", checked := Try.checked }
namespace Rows
def none {H : Type} : Left H := { results := [], args := [] }

/-- 'fustiankeep.SpansFollow': WHATEVER THE INPUT: true; the input reads as it did. -/
def spansFollowSpec : ChangeSpec := { name := "spansFollow", fn := fun _ => fun
  | [d1, d2, d3] => { results := [.lit (.bool true)], args := [d1, d2, d3] }
  | _ => none }
def spansFollowRow : OpenClaim := { program := "ythemlhkdgaeogaa", sum := "425116d5dcc4270bb969c407074c371c4b4a59ddc56471bdc8e9047fdc67d3d2", func := "fustian/fustiankeep.SpansFollow", spec := "spansFollow", inPlace := ["slices.overlaps[fustian/api.Span]"], unfollowed := true, recurses := true, apart := false }
def SpansFollowSaid : Prop := spansFollowRow.holds Try.pinned (OpenSpec.ofChange spansFollowSpec)

/-- ITS FALSE NEIGHBOUR: 'it returns false'. Refute it at one input. -/
def spansFollowWrong : ChangeSpec := { name := "spansFollow", fn := fun _ => fun
  | [d1, d2, d3] => { results := [.lit (.bool false)], args := [d1, d2, d3] }
  | _ => none }
def SpansFollowWrongFalsely : Prop := spansFollowRow.holds Try.pinned (OpenSpec.ofChange spansFollowWrong)

/-- 'fustiankeep.NormApart': WHATEVER THE INPUT: true; the input reads as it did. -/
def normApartSpec : ChangeSpec := { name := "normApart", fn := fun _ => fun
  | [d1, d2, d3] => { results := [.lit (.bool true)], args := [d1, d2, d3] }
  | _ => none }
def normApartRow : OpenClaim := { program := "ythemlhkdgaeogaa", sum := "425116d5dcc4270bb969c407074c371c4b4a59ddc56471bdc8e9047fdc67d3d2", func := "fustian/fustiankeep.NormApart", spec := "normApart", unfollowed := true, recurses := true, apart := false }
def NormApartSaid : Prop := normApartRow.holds Try.pinned (OpenSpec.ofChange normApartSpec)

/-- ITS FALSE NEIGHBOUR: 'it returns false'. Refute it at one input. -/
def normApartWrong : ChangeSpec := { name := "normApart", fn := fun _ => fun
  | [d1, d2, d3] => { results := [.lit (.bool false)], args := [d1, d2, d3] }
  | _ => none }
def NormApartWrongFalsely : Prop := normApartRow.holds Try.pinned (OpenSpec.ofChange normApartWrong)

/-- 'fustiankeep.TypeEdits': WHATEVER THE INPUT: true; the input reads as it did. -/
def typeEditsSpec : ChangeSpec := { name := "typeEdits", fn := fun _ => fun
  | [d1, d2, d3] => { results := [.lit (.bool true)], args := [d1, d2, d3] }
  | _ => none }
def typeEditsRow : OpenClaim := { program := "ythemlhkdgaeogaa", sum := "425116d5dcc4270bb969c407074c371c4b4a59ddc56471bdc8e9047fdc67d3d2", func := "fustian/fustiankeep.TypeEdits", spec := "typeEdits", unfollowed := true, recurses := true, apart := false }
def TypeEditsSaid : Prop := typeEditsRow.holds Try.pinned (OpenSpec.ofChange typeEditsSpec)

/-- ITS FALSE NEIGHBOUR: 'it returns false'. Refute it at one input. -/
def typeEditsWrong : ChangeSpec := { name := "typeEdits", fn := fun _ => fun
  | [d1, d2, d3] => { results := [.lit (.bool false)], args := [d1, d2, d3] }
  | _ => none }
def TypeEditsWrongFalsely : Prop := typeEditsRow.holds Try.pinned (OpenSpec.ofChange typeEditsWrong)

/-- 'fustiankeep.FollowWithin': WHATEVER THE INPUT: true; the input reads as it did. -/
def followWithinSpec : ChangeSpec := { name := "followWithin", fn := fun _ => fun
  | [d1, d2, d3] => { results := [.lit (.bool true)], args := [d1, d2, d3] }
  | _ => none }
def followWithinRow : OpenClaim := { program := "ythemlhkdgaeogaa", sum := "425116d5dcc4270bb969c407074c371c4b4a59ddc56471bdc8e9047fdc67d3d2", func := "fustian/fustiankeep.FollowWithin", spec := "followWithin", unfollowed := true, recurses := true, apart := false }
def FollowWithinSaid : Prop := followWithinRow.holds Try.pinned (OpenSpec.ofChange followWithinSpec)

/-- ITS FALSE NEIGHBOUR: 'it returns false'. Refute it at one input. -/
def followWithinWrong : ChangeSpec := { name := "followWithin", fn := fun _ => fun
  | [d1, d2, d3] => { results := [.lit (.bool false)], args := [d1, d2, d3] }
  | _ => none }
def FollowWithinWrongFalsely : Prop := followWithinRow.holds Try.pinned (OpenSpec.ofChange followWithinWrong)

/-- 'fustiankeep.MergeOne': WHATEVER THE INPUT: true; the input reads as it did. -/
def mergeOneSpec : ChangeSpec := { name := "mergeOne", fn := fun _ => fun
  | [d1, d2, d3] => { results := [.lit (.bool true)], args := [d1, d2, d3] }
  | _ => none }
def mergeOneRow : OpenClaim := { program := "ythemlhkdgaeogaa", sum := "425116d5dcc4270bb969c407074c371c4b4a59ddc56471bdc8e9047fdc67d3d2", func := "fustian/fustiankeep.MergeOne", spec := "mergeOne", unfollowed := true, recurses := true, apart := false }
def MergeOneSaid : Prop := mergeOneRow.holds Try.pinned (OpenSpec.ofChange mergeOneSpec)

/-- ITS FALSE NEIGHBOUR: 'it returns false'. Refute it at one input. -/
def mergeOneWrong : ChangeSpec := { name := "mergeOne", fn := fun _ => fun
  | [d1, d2, d3] => { results := [.lit (.bool false)], args := [d1, d2, d3] }
  | _ => none }
def MergeOneWrongFalsely : Prop := mergeOneRow.holds Try.pinned (OpenSpec.ofChange mergeOneWrong)

/-- 'fustiankeep.MergeTurned': WHATEVER THE INPUT: true; the input reads as it did. -/
def mergeTurnedSpec : ChangeSpec := { name := "mergeTurned", fn := fun _ => fun
  | [d1, d2, d3, d4] => { results := [.lit (.bool true)], args := [d1, d2, d3, d4] }
  | _ => none }
def mergeTurnedRow : OpenClaim := { program := "ythemlhkdgaeogaa", sum := "425116d5dcc4270bb969c407074c371c4b4a59ddc56471bdc8e9047fdc67d3d2", func := "fustian/fustiankeep.MergeTurned", spec := "mergeTurned", unfollowed := true, recurses := true, apart := false }
def MergeTurnedSaid : Prop := mergeTurnedRow.holds Try.pinned (OpenSpec.ofChange mergeTurnedSpec)

/-- ITS FALSE NEIGHBOUR: 'it returns false'. Refute it at one input. -/
def mergeTurnedWrong : ChangeSpec := { name := "mergeTurned", fn := fun _ => fun
  | [d1, d2, d3, d4] => { results := [.lit (.bool false)], args := [d1, d2, d3, d4] }
  | _ => none }
def MergeTurnedWrongFalsely : Prop := mergeTurnedRow.holds Try.pinned (OpenSpec.ofChange mergeTurnedWrong)

/-- 'fustiankeep.MergeFar': WHATEVER THE INPUT: true; the input reads as it did. -/
def mergeFarSpec : ChangeSpec := { name := "mergeFar", fn := fun _ => fun
  | [d1, d2, d3, d4] => { results := [.lit (.bool true)], args := [d1, d2, d3, d4] }
  | _ => none }
def mergeFarRow : OpenClaim := { program := "ythemlhkdgaeogaa", sum := "425116d5dcc4270bb969c407074c371c4b4a59ddc56471bdc8e9047fdc67d3d2", func := "fustian/fustiankeep.MergeFar", spec := "mergeFar", unfollowed := true, recurses := true, apart := false }
def MergeFarSaid : Prop := mergeFarRow.holds Try.pinned (OpenSpec.ofChange mergeFarSpec)

/-- ITS FALSE NEIGHBOUR: 'it returns false'. Refute it at one input. -/
def mergeFarWrong : ChangeSpec := { name := "mergeFar", fn := fun _ => fun
  | [d1, d2, d3, d4] => { results := [.lit (.bool false)], args := [d1, d2, d3, d4] }
  | _ => none }
def MergeFarWrongFalsely : Prop := mergeFarRow.holds Try.pinned (OpenSpec.ofChange mergeFarWrong)

/-- 'fustiankeep.WordsEdge': WHATEVER THE INPUT: true; the input reads as it did. -/
def wordsEdgeSpec : ChangeSpec := { name := "wordsEdge", fn := fun _ => fun
  | [d1, d2] => { results := [.lit (.bool true)], args := [d1, d2] }
  | _ => none }
def wordsEdgeRow : OpenClaim := { program := "ythemlhkdgaeogaa", sum := "425116d5dcc4270bb969c407074c371c4b4a59ddc56471bdc8e9047fdc67d3d2", func := "fustian/fustiankeep.WordsEdge", spec := "wordsEdge", unfollowed := true, recurses := true, apart := false }
def WordsEdgeSaid : Prop := wordsEdgeRow.holds Try.pinned (OpenSpec.ofChange wordsEdgeSpec)

/-- ITS FALSE NEIGHBOUR: 'it returns false'. Refute it at one input. -/
def wordsEdgeWrong : ChangeSpec := { name := "wordsEdge", fn := fun _ => fun
  | [d1, d2] => { results := [.lit (.bool false)], args := [d1, d2] }
  | _ => none }
def WordsEdgeWrongFalsely : Prop := wordsEdgeRow.holds Try.pinned (OpenSpec.ofChange wordsEdgeWrong)

/-- 'fustiankeep.MarksSorted': WHATEVER THE INPUT: true; the input reads as it did. -/
def marksSortedSpec : ChangeSpec := { name := "marksSorted", fn := fun _ => fun
  | [d1, d2, d3] => { results := [.lit (.bool true)], args := [d1, d2, d3] }
  | _ => none }
def marksSortedRow : OpenClaim := { program := "ythemlhkdgaeogaa", sum := "425116d5dcc4270bb969c407074c371c4b4a59ddc56471bdc8e9047fdc67d3d2", func := "fustian/fustiankeep.MarksSorted", spec := "marksSorted", unfollowed := true, recurses := true, apart := false }
def MarksSortedSaid : Prop := marksSortedRow.holds Try.pinned (OpenSpec.ofChange marksSortedSpec)

/-- ITS FALSE NEIGHBOUR: 'it returns false'. Refute it at one input. -/
def marksSortedWrong : ChangeSpec := { name := "marksSorted", fn := fun _ => fun
  | [d1, d2, d3] => { results := [.lit (.bool false)], args := [d1, d2, d3] }
  | _ => none }
def MarksSortedWrongFalsely : Prop := marksSortedRow.holds Try.pinned (OpenSpec.ofChange marksSortedWrong)

/- THE SECOND FORM. 'bulk': how many values and letters a reading holds, each counted each time it is reached (what is shared counts as often as it is met; a slice's spare places count too). A statement '..UptoSaid' is the law's where the arguments, and the package variables that the reading takes, are together of bulk at most 1048576: NARROWER than '..Said'. Prove '..Said' where nothing that the law and all that it calls make is longer than what came in: it says more and counts as full. Else prove '..UptoSaid'. A law counts once. -/
mutual
def uptoBulk {H : Type} : DataW H → Nat
  | .lit (.string bytes) => bytes.length + 1
  | .lit _ => 1
  | .nil => 1
  | .ptr d => uptoBulk d + 1
  | .slice elems spare => uptoBulkAll elems + uptoBulkAll spare + 1
  | .agg parts => uptoBulkAll parts + 1
  | .iface _ d => uptoBulk d + 1
  | .map entries => uptoBulkEntries entries + 1
  | .held _ => 1
def uptoBulkAll {H : Type} : List (DataW H) → Nat
  | [] => 0
  | d :: r => uptoBulk d + uptoBulkAll r
def uptoBulkEntries {H : Type} : List (Lit × DataW H) → Nat
  | [] => 0
  | x :: r => uptoBulkEntry x + uptoBulkEntries r
def uptoBulkEntry {H : Type} : Lit × DataW H → Nat
  | (.string bytes, d) => bytes.length + uptoBulk d + 1
  | (_, d) => uptoBulk d + 1
 end
def uptoSmall : (H : Type) → List (DataW H) → Bool := fun _ ds => decide (uptoBulkAll ds ≤ 1048576)
def OpenSpec.upto (s : _root_.Go.ChangeSpec) : _root_.Go.OpenSpec := { _root_.Go.OpenSpec.ofChange s with cond := some uptoSmall }

/-- 'fustiankeep.SpansFollow', WHERE WHAT IT READS IS OF BULK AT MOST 1048576: true; the input reads as it did. -/
def spansFollowUptoRow : OpenClaim := { program := "ythemlhkdgaeogaa", sum := "425116d5dcc4270bb969c407074c371c4b4a59ddc56471bdc8e9047fdc67d3d2", func := "fustian/fustiankeep.SpansFollow", spec := "spansFollow", inPlace := ["slices.overlaps[fustian/api.Span]"], unfollowed := true, recurses := true, apart := false, narrowed := true }
def SpansFollowUptoSaid : Prop := spansFollowUptoRow.holds Try.pinned (OpenSpec.upto spansFollowSpec)

/-- 'fustiankeep.NormApart', WHERE WHAT IT READS IS OF BULK AT MOST 1048576: true; the input reads as it did. -/
def normApartUptoRow : OpenClaim := { program := "ythemlhkdgaeogaa", sum := "425116d5dcc4270bb969c407074c371c4b4a59ddc56471bdc8e9047fdc67d3d2", func := "fustian/fustiankeep.NormApart", spec := "normApart", unfollowed := true, recurses := true, apart := false, narrowed := true }
def NormApartUptoSaid : Prop := normApartUptoRow.holds Try.pinned (OpenSpec.upto normApartSpec)

/-- 'fustiankeep.TypeEdits', WHERE WHAT IT READS IS OF BULK AT MOST 1048576: true; the input reads as it did. -/
def typeEditsUptoRow : OpenClaim := { program := "ythemlhkdgaeogaa", sum := "425116d5dcc4270bb969c407074c371c4b4a59ddc56471bdc8e9047fdc67d3d2", func := "fustian/fustiankeep.TypeEdits", spec := "typeEdits", unfollowed := true, recurses := true, apart := false, narrowed := true }
def TypeEditsUptoSaid : Prop := typeEditsUptoRow.holds Try.pinned (OpenSpec.upto typeEditsSpec)

/-- 'fustiankeep.FollowWithin', WHERE WHAT IT READS IS OF BULK AT MOST 1048576: true; the input reads as it did. -/
def followWithinUptoRow : OpenClaim := { program := "ythemlhkdgaeogaa", sum := "425116d5dcc4270bb969c407074c371c4b4a59ddc56471bdc8e9047fdc67d3d2", func := "fustian/fustiankeep.FollowWithin", spec := "followWithin", unfollowed := true, recurses := true, apart := false, narrowed := true }
def FollowWithinUptoSaid : Prop := followWithinUptoRow.holds Try.pinned (OpenSpec.upto followWithinSpec)

/-- 'fustiankeep.MergeOne', WHERE WHAT IT READS IS OF BULK AT MOST 1048576: true; the input reads as it did. -/
def mergeOneUptoRow : OpenClaim := { program := "ythemlhkdgaeogaa", sum := "425116d5dcc4270bb969c407074c371c4b4a59ddc56471bdc8e9047fdc67d3d2", func := "fustian/fustiankeep.MergeOne", spec := "mergeOne", unfollowed := true, recurses := true, apart := false, narrowed := true }
def MergeOneUptoSaid : Prop := mergeOneUptoRow.holds Try.pinned (OpenSpec.upto mergeOneSpec)

/-- 'fustiankeep.MergeTurned', WHERE WHAT IT READS IS OF BULK AT MOST 1048576: true; the input reads as it did. -/
def mergeTurnedUptoRow : OpenClaim := { program := "ythemlhkdgaeogaa", sum := "425116d5dcc4270bb969c407074c371c4b4a59ddc56471bdc8e9047fdc67d3d2", func := "fustian/fustiankeep.MergeTurned", spec := "mergeTurned", unfollowed := true, recurses := true, apart := false, narrowed := true }
def MergeTurnedUptoSaid : Prop := mergeTurnedUptoRow.holds Try.pinned (OpenSpec.upto mergeTurnedSpec)

/-- 'fustiankeep.MergeFar', WHERE WHAT IT READS IS OF BULK AT MOST 1048576: true; the input reads as it did. -/
def mergeFarUptoRow : OpenClaim := { program := "ythemlhkdgaeogaa", sum := "425116d5dcc4270bb969c407074c371c4b4a59ddc56471bdc8e9047fdc67d3d2", func := "fustian/fustiankeep.MergeFar", spec := "mergeFar", unfollowed := true, recurses := true, apart := false, narrowed := true }
def MergeFarUptoSaid : Prop := mergeFarUptoRow.holds Try.pinned (OpenSpec.upto mergeFarSpec)

/-- 'fustiankeep.WordsEdge', WHERE WHAT IT READS IS OF BULK AT MOST 1048576: true; the input reads as it did. -/
def wordsEdgeUptoRow : OpenClaim := { program := "ythemlhkdgaeogaa", sum := "425116d5dcc4270bb969c407074c371c4b4a59ddc56471bdc8e9047fdc67d3d2", func := "fustian/fustiankeep.WordsEdge", spec := "wordsEdge", unfollowed := true, recurses := true, apart := false, narrowed := true }
def WordsEdgeUptoSaid : Prop := wordsEdgeUptoRow.holds Try.pinned (OpenSpec.upto wordsEdgeSpec)

/-- 'fustiankeep.MarksSorted', WHERE WHAT IT READS IS OF BULK AT MOST 1048576: true; the input reads as it did. -/
def marksSortedUptoRow : OpenClaim := { program := "ythemlhkdgaeogaa", sum := "425116d5dcc4270bb969c407074c371c4b4a59ddc56471bdc8e9047fdc67d3d2", func := "fustian/fustiankeep.MarksSorted", spec := "marksSorted", unfollowed := true, recurses := true, apart := false, narrowed := true }
def MarksSortedUptoSaid : Prop := marksSortedUptoRow.holds Try.pinned (OpenSpec.upto marksSortedSpec)

end Rows
end Go.Proofs.Ythemlhkdgaeogaa
