/-
  No cell of these rows narrows 'for every input' (looked for: loops, veiled, ifaces, maps, wideKeys, modest, calm, conditions, laid).
  DERIVED. THE GIVEN ROWS OF THIS SEAT. 9 by the template 'for every input the law returns true; each argument reads behind the call as it read before'; 0 by the template 'total and deterministic' (their statements: YtpgjjnbepkofdaaTotals.lean).
  GIVEN WITH THE SEED: the statements are not yours to turn. If you find one false, say at which input.
  Laid BY PROGRAM, IN A SANDBOX (cutbox-rows.mjs): the forced cells as the released guide's own fill.sh prints them over the translation c57dbc5ae43e04f5… (all of the seat's roots in one cut). By AI agents, Wed Nov 11 2026. No macro, syntax, notation, axiom, sorry.
-/
import Derived.Test.YtpgjjnbepkofdaaChecked
import GoSem.Claim
import GoSem.ClaimJoined
import GoSem.ClaimMapViews
import Derived.JoinedTies
import Derived.KernelRfl
namespace Go.Proofs.Ytpgjjnbepkofdaa
/- THE CELL 'sum', in the pinned program and in every row, IS THE sha256 OF THE DUMP (.gsa) THAT YtpgjjnbepkofdaaProg.lean LOADS. Nothing in Lean hashes anything: it is a label: what it is worth is what the hold of that sum in a sandbox is worth. -/
noncomputable def Try.pinned : Pinned := { name := "ytpgjjnbepkofdaa", sum := "c57dbc5ae43e04f58408eca7dbcd0fcff931bd41044ffb1cecf5c79938eedc7d", checked := Try.checked }
namespace Rows
def none {H : Type} : Left H := { results := [], args := [] }

/-- 'fustiankeep.MergeOne': WHATEVER THE INPUT: true; the input reads as it did. -/
def mergeOneSpec : ChangeSpec := { name := "mergeOne", fn := fun _ => fun
  | [d1, d2, d3] => { results := [.lit (.bool true)], args := [d1, d2, d3] }
  | _ => none }
def mergeOneRow : OpenClaim := { program := "ytpgjjnbepkofdaa", sum := "c57dbc5ae43e04f58408eca7dbcd0fcff931bd41044ffb1cecf5c79938eedc7d", func := "fustian/fustiankeep.MergeOne", spec := "mergeOne", unfollowed := true, recurses := true, apart := false }
def MergeOneSaid : Prop := mergeOneRow.holds Try.pinned (OpenSpec.ofChange mergeOneSpec)

/-- ITS FALSE NEIGHBOUR: 'it returns false'. Refute it at one input. -/
def mergeOneWrong : ChangeSpec := { name := "mergeOne", fn := fun _ => fun
  | [d1, d2, d3] => { results := [.lit (.bool false)], args := [d1, d2, d3] }
  | _ => none }
def MergeOneWrongFalsely : Prop := mergeOneRow.holds Try.pinned (OpenSpec.ofChange mergeOneWrong)

/-- 'fustiankeep.MergeTurned': WHATEVER THE INPUT: true; the input reads as it did. -/
def mergeTurnedSpec : ChangeSpec := { name := "mergeTurned", fn := fun _ => fun
  | [d1, d2, d3, d4] => { results := [.lit (.bool true)], args := [d1, d2, d3, d4] }
  | _ => none }
def mergeTurnedRow : OpenClaim := { program := "ytpgjjnbepkofdaa", sum := "c57dbc5ae43e04f58408eca7dbcd0fcff931bd41044ffb1cecf5c79938eedc7d", func := "fustian/fustiankeep.MergeTurned", spec := "mergeTurned", unfollowed := true, recurses := true, apart := false }
def MergeTurnedSaid : Prop := mergeTurnedRow.holds Try.pinned (OpenSpec.ofChange mergeTurnedSpec)

/-- ITS FALSE NEIGHBOUR: 'it returns false'. Refute it at one input. -/
def mergeTurnedWrong : ChangeSpec := { name := "mergeTurned", fn := fun _ => fun
  | [d1, d2, d3, d4] => { results := [.lit (.bool false)], args := [d1, d2, d3, d4] }
  | _ => none }
def MergeTurnedWrongFalsely : Prop := mergeTurnedRow.holds Try.pinned (OpenSpec.ofChange mergeTurnedWrong)

/-- 'fustiankeep.MergeFar': WHATEVER THE INPUT: true; the input reads as it did. -/
def mergeFarSpec : ChangeSpec := { name := "mergeFar", fn := fun _ => fun
  | [d1, d2, d3, d4] => { results := [.lit (.bool true)], args := [d1, d2, d3, d4] }
  | _ => none }
def mergeFarRow : OpenClaim := { program := "ytpgjjnbepkofdaa", sum := "c57dbc5ae43e04f58408eca7dbcd0fcff931bd41044ffb1cecf5c79938eedc7d", func := "fustian/fustiankeep.MergeFar", spec := "mergeFar", unfollowed := true, recurses := true, apart := false }
def MergeFarSaid : Prop := mergeFarRow.holds Try.pinned (OpenSpec.ofChange mergeFarSpec)

/-- ITS FALSE NEIGHBOUR: 'it returns false'. Refute it at one input. -/
def mergeFarWrong : ChangeSpec := { name := "mergeFar", fn := fun _ => fun
  | [d1, d2, d3, d4] => { results := [.lit (.bool false)], args := [d1, d2, d3, d4] }
  | _ => none }
def MergeFarWrongFalsely : Prop := mergeFarRow.holds Try.pinned (OpenSpec.ofChange mergeFarWrong)

/-- 'fustiankeep.WordsEdge': WHATEVER THE INPUT: true; the input reads as it did. -/
def wordsEdgeSpec : ChangeSpec := { name := "wordsEdge", fn := fun _ => fun
  | [d1, d2] => { results := [.lit (.bool true)], args := [d1, d2] }
  | _ => none }
def wordsEdgeRow : OpenClaim := { program := "ytpgjjnbepkofdaa", sum := "c57dbc5ae43e04f58408eca7dbcd0fcff931bd41044ffb1cecf5c79938eedc7d", func := "fustian/fustiankeep.WordsEdge", spec := "wordsEdge", unfollowed := true, recurses := true, apart := false }
def WordsEdgeSaid : Prop := wordsEdgeRow.holds Try.pinned (OpenSpec.ofChange wordsEdgeSpec)

/-- ITS FALSE NEIGHBOUR: 'it returns false'. Refute it at one input. -/
def wordsEdgeWrong : ChangeSpec := { name := "wordsEdge", fn := fun _ => fun
  | [d1, d2] => { results := [.lit (.bool false)], args := [d1, d2] }
  | _ => none }
def WordsEdgeWrongFalsely : Prop := wordsEdgeRow.holds Try.pinned (OpenSpec.ofChange wordsEdgeWrong)

/-- 'fustiankeep.WordsParts': WHATEVER THE INPUT: true; the input reads as it did. -/
def wordsPartsSpec : ChangeSpec := { name := "wordsParts", fn := fun _ => fun
  | [d1, d2] => { results := [.lit (.bool true)], args := [d1, d2] }
  | _ => none }
def wordsPartsRow : OpenClaim := { program := "ytpgjjnbepkofdaa", sum := "c57dbc5ae43e04f58408eca7dbcd0fcff931bd41044ffb1cecf5c79938eedc7d", func := "fustian/fustiankeep.WordsParts", spec := "wordsParts", unfollowed := true, recurses := true, apart := false }
def WordsPartsSaid : Prop := wordsPartsRow.holds Try.pinned (OpenSpec.ofChange wordsPartsSpec)

/-- ITS FALSE NEIGHBOUR: 'it returns false'. Refute it at one input. -/
def wordsPartsWrong : ChangeSpec := { name := "wordsParts", fn := fun _ => fun
  | [d1, d2] => { results := [.lit (.bool false)], args := [d1, d2] }
  | _ => none }
def WordsPartsWrongFalsely : Prop := wordsPartsRow.holds Try.pinned (OpenSpec.ofChange wordsPartsWrong)

/-- 'fustiankeep.WordsFollow': WHATEVER THE INPUT: true; the input reads as it did. -/
def wordsFollowSpec : ChangeSpec := { name := "wordsFollow", fn := fun _ => fun
  | [d1, d2] => { results := [.lit (.bool true)], args := [d1, d2] }
  | _ => none }
def wordsFollowRow : OpenClaim := { program := "ytpgjjnbepkofdaa", sum := "c57dbc5ae43e04f58408eca7dbcd0fcff931bd41044ffb1cecf5c79938eedc7d", func := "fustian/fustiankeep.WordsFollow", spec := "wordsFollow", unfollowed := true, recurses := true, apart := false }
def WordsFollowSaid : Prop := wordsFollowRow.holds Try.pinned (OpenSpec.ofChange wordsFollowSpec)

/-- ITS FALSE NEIGHBOUR: 'it returns false'. Refute it at one input. -/
def wordsFollowWrong : ChangeSpec := { name := "wordsFollow", fn := fun _ => fun
  | [d1, d2] => { results := [.lit (.bool false)], args := [d1, d2] }
  | _ => none }
def WordsFollowWrongFalsely : Prop := wordsFollowRow.holds Try.pinned (OpenSpec.ofChange wordsFollowWrong)

/-- 'fustiankeep.MarksSorted': WHATEVER THE INPUT: true; the input reads as it did. -/
def marksSortedSpec : ChangeSpec := { name := "marksSorted", fn := fun _ => fun
  | [d1, d2, d3] => { results := [.lit (.bool true)], args := [d1, d2, d3] }
  | _ => none }
def marksSortedRow : OpenClaim := { program := "ytpgjjnbepkofdaa", sum := "c57dbc5ae43e04f58408eca7dbcd0fcff931bd41044ffb1cecf5c79938eedc7d", func := "fustian/fustiankeep.MarksSorted", spec := "marksSorted", unfollowed := true, recurses := true, apart := false }
def MarksSortedSaid : Prop := marksSortedRow.holds Try.pinned (OpenSpec.ofChange marksSortedSpec)

/-- ITS FALSE NEIGHBOUR: 'it returns false'. Refute it at one input. -/
def marksSortedWrong : ChangeSpec := { name := "marksSorted", fn := fun _ => fun
  | [d1, d2, d3] => { results := [.lit (.bool false)], args := [d1, d2, d3] }
  | _ => none }
def MarksSortedWrongFalsely : Prop := marksSortedRow.holds Try.pinned (OpenSpec.ofChange marksSortedWrong)

/-- 'fustiankeep.ManyEach': WHATEVER THE INPUT: true; the input reads as it did. -/
def manyEachSpec : ChangeSpec := { name := "manyEach", fn := fun _ => fun
  | [d1, d2] => { results := [.lit (.bool true)], args := [d1, d2] }
  | _ => none }
def manyEachRow : OpenClaim := { program := "ytpgjjnbepkofdaa", sum := "c57dbc5ae43e04f58408eca7dbcd0fcff931bd41044ffb1cecf5c79938eedc7d", func := "fustian/fustiankeep.ManyEach", spec := "manyEach", unfollowed := true, recurses := true, apart := false }
def ManyEachSaid : Prop := manyEachRow.holds Try.pinned (OpenSpec.ofChange manyEachSpec)

/-- ITS FALSE NEIGHBOUR: 'it returns false'. Refute it at one input. -/
def manyEachWrong : ChangeSpec := { name := "manyEach", fn := fun _ => fun
  | [d1, d2] => { results := [.lit (.bool false)], args := [d1, d2] }
  | _ => none }
def ManyEachWrongFalsely : Prop := manyEachRow.holds Try.pinned (OpenSpec.ofChange manyEachWrong)

/-- 'fustiantop.TopLooks': WHATEVER THE INPUT: true; the input reads as it did. -/
def topLooksSpec : ChangeSpec := { name := "topLooks", fn := fun _ => fun
  | [d1, d2, d3] => { results := [.lit (.bool true)], args := [d1, d2, d3] }
  | _ => none }
def topLooksRow : OpenClaim := { program := "ytpgjjnbepkofdaa", sum := "c57dbc5ae43e04f58408eca7dbcd0fcff931bd41044ffb1cecf5c79938eedc7d", func := "fustian/fustiantop.TopLooks", spec := "topLooks", unfollowed := true, recurses := true, apart := false }
def TopLooksSaid : Prop := topLooksRow.holds Try.pinned (OpenSpec.ofChange topLooksSpec)

/-- ITS FALSE NEIGHBOUR: 'it returns false'. Refute it at one input. -/
def topLooksWrong : ChangeSpec := { name := "topLooks", fn := fun _ => fun
  | [d1, d2, d3] => { results := [.lit (.bool false)], args := [d1, d2, d3] }
  | _ => none }
def TopLooksWrongFalsely : Prop := topLooksRow.holds Try.pinned (OpenSpec.ofChange topLooksWrong)

/- THE SECOND FORM. 'bulk': how many values and letters a reading holds, each counted each time it is reached (what is shared counts as often as it is met; a slice's spare places count too). A statement '..UptoSaid' is the law's where the arguments, and the package variables that the reading takes, are together of bulk at most 1048576: NARROWER than '..Said'. Prove '..Said' where nothing that the law and all that it calls make is longer than what came in: it says more and counts as full. Else prove '..UptoSaid'. A law counts once. -/
mutual
def uptoBulk {H : Type} : DataW H → Nat
  | .lit (.string bytes) => bytes.length + 1
  | .lit _ => 1
  | .nil => 1
  | .ptr d => uptoBulk d + 1
  | .slice elems spare => uptoBulkAll elems + uptoBulkAll spare + 1
  | .agg parts => uptoBulkAll parts + 1
  | .iface _ d => uptoBulk d + 1
  | .map entries => uptoBulkEntries entries + 1
  | .held _ => 1
def uptoBulkAll {H : Type} : List (DataW H) → Nat
  | [] => 0
  | d :: r => uptoBulk d + uptoBulkAll r
def uptoBulkEntries {H : Type} : List (Lit × DataW H) → Nat
  | [] => 0
  | x :: r => uptoBulkEntry x + uptoBulkEntries r
def uptoBulkEntry {H : Type} : Lit × DataW H → Nat
  | (.string bytes, d) => bytes.length + uptoBulk d + 1
  | (_, d) => uptoBulk d + 1
 end
def uptoSmall : (H : Type) → List (DataW H) → Bool := fun _ ds => decide (uptoBulkAll ds ≤ 1048576)
def OpenSpec.upto (s : _root_.Go.ChangeSpec) : _root_.Go.OpenSpec := { _root_.Go.OpenSpec.ofChange s with cond := some uptoSmall }

/-- 'fustiankeep.MergeOne', WHERE WHAT IT READS IS OF BULK AT MOST 1048576: true; the input reads as it did. -/
def mergeOneUptoRow : OpenClaim := { program := "ytpgjjnbepkofdaa", sum := "c57dbc5ae43e04f58408eca7dbcd0fcff931bd41044ffb1cecf5c79938eedc7d", func := "fustian/fustiankeep.MergeOne", spec := "mergeOne", unfollowed := true, recurses := true, apart := false, narrowed := true }
def MergeOneUptoSaid : Prop := mergeOneUptoRow.holds Try.pinned (OpenSpec.upto mergeOneSpec)

/-- 'fustiankeep.MergeTurned', WHERE WHAT IT READS IS OF BULK AT MOST 1048576: true; the input reads as it did. -/
def mergeTurnedUptoRow : OpenClaim := { program := "ytpgjjnbepkofdaa", sum := "c57dbc5ae43e04f58408eca7dbcd0fcff931bd41044ffb1cecf5c79938eedc7d", func := "fustian/fustiankeep.MergeTurned", spec := "mergeTurned", unfollowed := true, recurses := true, apart := false, narrowed := true }
def MergeTurnedUptoSaid : Prop := mergeTurnedUptoRow.holds Try.pinned (OpenSpec.upto mergeTurnedSpec)

/-- 'fustiankeep.MergeFar', WHERE WHAT IT READS IS OF BULK AT MOST 1048576: true; the input reads as it did. -/
def mergeFarUptoRow : OpenClaim := { program := "ytpgjjnbepkofdaa", sum := "c57dbc5ae43e04f58408eca7dbcd0fcff931bd41044ffb1cecf5c79938eedc7d", func := "fustian/fustiankeep.MergeFar", spec := "mergeFar", unfollowed := true, recurses := true, apart := false, narrowed := true }
def MergeFarUptoSaid : Prop := mergeFarUptoRow.holds Try.pinned (OpenSpec.upto mergeFarSpec)

/-- 'fustiankeep.WordsEdge', WHERE WHAT IT READS IS OF BULK AT MOST 1048576: true; the input reads as it did. -/
def wordsEdgeUptoRow : OpenClaim := { program := "ytpgjjnbepkofdaa", sum := "c57dbc5ae43e04f58408eca7dbcd0fcff931bd41044ffb1cecf5c79938eedc7d", func := "fustian/fustiankeep.WordsEdge", spec := "wordsEdge", unfollowed := true, recurses := true, apart := false, narrowed := true }
def WordsEdgeUptoSaid : Prop := wordsEdgeUptoRow.holds Try.pinned (OpenSpec.upto wordsEdgeSpec)

/-- 'fustiankeep.WordsParts', WHERE WHAT IT READS IS OF BULK AT MOST 1048576: true; the input reads as it did. -/
def wordsPartsUptoRow : OpenClaim := { program := "ytpgjjnbepkofdaa", sum := "c57dbc5ae43e04f58408eca7dbcd0fcff931bd41044ffb1cecf5c79938eedc7d", func := "fustian/fustiankeep.WordsParts", spec := "wordsParts", unfollowed := true, recurses := true, apart := false, narrowed := true }
def WordsPartsUptoSaid : Prop := wordsPartsUptoRow.holds Try.pinned (OpenSpec.upto wordsPartsSpec)

/-- 'fustiankeep.WordsFollow', WHERE WHAT IT READS IS OF BULK AT MOST 1048576: true; the input reads as it did. -/
def wordsFollowUptoRow : OpenClaim := { program := "ytpgjjnbepkofdaa", sum := "c57dbc5ae43e04f58408eca7dbcd0fcff931bd41044ffb1cecf5c79938eedc7d", func := "fustian/fustiankeep.WordsFollow", spec := "wordsFollow", unfollowed := true, recurses := true, apart := false, narrowed := true }
def WordsFollowUptoSaid : Prop := wordsFollowUptoRow.holds Try.pinned (OpenSpec.upto wordsFollowSpec)

/-- 'fustiankeep.MarksSorted', WHERE WHAT IT READS IS OF BULK AT MOST 1048576: true; the input reads as it did. -/
def marksSortedUptoRow : OpenClaim := { program := "ytpgjjnbepkofdaa", sum := "c57dbc5ae43e04f58408eca7dbcd0fcff931bd41044ffb1cecf5c79938eedc7d", func := "fustian/fustiankeep.MarksSorted", spec := "marksSorted", unfollowed := true, recurses := true, apart := false, narrowed := true }
def MarksSortedUptoSaid : Prop := marksSortedUptoRow.holds Try.pinned (OpenSpec.upto marksSortedSpec)

/-- 'fustiankeep.ManyEach', WHERE WHAT IT READS IS OF BULK AT MOST 1048576: true; the input reads as it did. -/
def manyEachUptoRow : OpenClaim := { program := "ytpgjjnbepkofdaa", sum := "c57dbc5ae43e04f58408eca7dbcd0fcff931bd41044ffb1cecf5c79938eedc7d", func := "fustian/fustiankeep.ManyEach", spec := "manyEach", unfollowed := true, recurses := true, apart := false, narrowed := true }
def ManyEachUptoSaid : Prop := manyEachUptoRow.holds Try.pinned (OpenSpec.upto manyEachSpec)

/-- 'fustiantop.TopLooks', WHERE WHAT IT READS IS OF BULK AT MOST 1048576: true; the input reads as it did. -/
def topLooksUptoRow : OpenClaim := { program := "ytpgjjnbepkofdaa", sum := "c57dbc5ae43e04f58408eca7dbcd0fcff931bd41044ffb1cecf5c79938eedc7d", func := "fustian/fustiantop.TopLooks", spec := "topLooks", unfollowed := true, recurses := true, apart := false, narrowed := true }
def TopLooksUptoSaid : Prop := topLooksUptoRow.holds Try.pinned (OpenSpec.upto topLooksSpec)

end Rows
end Go.Proofs.Ytpgjjnbepkofdaa
