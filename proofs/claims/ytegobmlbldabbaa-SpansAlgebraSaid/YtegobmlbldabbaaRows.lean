/-
  No cell of these rows narrows 'for every input' (looked for: loops, veiled, ifaces, maps, wideKeys, modest, calm, conditions, laid).
  DERIVED. THE GIVEN ROWS OF THIS SEAT. 11 by the template 'for every input the law returns true; each argument reads behind the call as it read before'; 0 by the template 'total and deterministic' (their statements: YtegobmlbldabbaaTotals.lean).
  GIVEN WITH THE SEED: the statements are not yours to turn. If you find one false, say at which input.
  Laid BY PROGRAM, IN A SANDBOX (cutbox-rows.mjs): the forced cells as the released guide's own fill.sh prints them over the translation 23337ef5abf71cf4… (all of the seat's roots in one cut). By AI agents, Wed Nov 11 2026. No macro, syntax, notation, axiom, sorry.
-/
import Derived.Test.YtegobmlbldabbaaChecked
import GoSem.Claim
import GoSem.ClaimJoined
import GoSem.ClaimMapViews
import Derived.JoinedTies
import Derived.KernelRfl
namespace Go.Proofs.Ytegobmlbldabbaa
/- THE CELL 'sum', in the pinned program and in every row, IS THE sha256 OF THE DUMP (.gsa) THAT YtegobmlbldabbaaProg.lean LOADS. Nothing in Lean hashes anything: it is a label: what it is worth is what the hold of that sum in a sandbox is worth. -/
noncomputable def Try.pinned : Pinned := { name := "ytegobmlbldabbaa", sum := "23337ef5abf71cf481db944660597673947deba9dbfc1f9b5ab15f9377da36cf", checked := Try.checked }
namespace Rows
def none {H : Type} : Left H := { results := [], args := [] }

/-- 'fustiankeep.LogBack': WHATEVER THE INPUT: true; the input reads as it did. -/
def logBackSpec : ChangeSpec := { name := "logBack", fn := fun _ => fun
  | [d1, d2, d3, d4] => { results := [.lit (.bool true)], args := [d1, d2, d3, d4] }
  | _ => none }
def logBackRow : OpenClaim := { program := "ytegobmlbldabbaa", sum := "23337ef5abf71cf481db944660597673947deba9dbfc1f9b5ab15f9377da36cf", func := "fustian/fustiankeep.LogBack", spec := "logBack", apart := false }
def LogBackSaid : Prop := logBackRow.holds Try.pinned (OpenSpec.ofChange logBackSpec)

/-- ITS FALSE NEIGHBOUR: 'it returns false'. Refute it at one input. -/
def logBackWrong : ChangeSpec := { name := "logBack", fn := fun _ => fun
  | [d1, d2, d3, d4] => { results := [.lit (.bool false)], args := [d1, d2, d3, d4] }
  | _ => none }
def LogBackWrongFalsely : Prop := logBackRow.holds Try.pinned (OpenSpec.ofChange logBackWrong)

/-- 'fustiankeep.LogFixed': WHATEVER THE INPUT: true; the input reads as it did. -/
def logFixedSpec : ChangeSpec := { name := "logFixed", fn := fun _ => fun
  | [d] => { results := [.lit (.bool true)], args := [d] }
  | _ => none }
def logFixedRow : OpenClaim := { program := "ytegobmlbldabbaa", sum := "23337ef5abf71cf481db944660597673947deba9dbfc1f9b5ab15f9377da36cf", func := "fustian/fustiankeep.LogFixed", spec := "logFixed", apart := false }
def LogFixedSaid : Prop := logFixedRow.holds Try.pinned (OpenSpec.ofChange logFixedSpec)

/-- ITS FALSE NEIGHBOUR: 'it returns false'. Refute it at one input. -/
def logFixedWrong : ChangeSpec := { name := "logFixed", fn := fun _ => fun
  | [d] => { results := [.lit (.bool false)], args := [d] }
  | _ => none }
def LogFixedWrongFalsely : Prop := logFixedRow.holds Try.pinned (OpenSpec.ofChange logFixedWrong)

/-- 'fustiankeep.FuzzyEdits': WHATEVER THE INPUT: true; the input reads as it did. -/
def fuzzyEditsSpec : ChangeSpec := { name := "fuzzyEdits", fn := fun _ => fun
  | [d1, d2] => { results := [.lit (.bool true)], args := [d1, d2] }
  | _ => none }
def fuzzyEditsRow : OpenClaim := { program := "ytegobmlbldabbaa", sum := "23337ef5abf71cf481db944660597673947deba9dbfc1f9b5ab15f9377da36cf", func := "fustian/fustiankeep.FuzzyEdits", spec := "fuzzyEdits", unfollowed := true, recurses := true, apart := false }
def FuzzyEditsSaid : Prop := fuzzyEditsRow.holds Try.pinned (OpenSpec.ofChange fuzzyEditsSpec)

/-- ITS FALSE NEIGHBOUR: 'it returns false'. Refute it at one input. -/
def fuzzyEditsWrong : ChangeSpec := { name := "fuzzyEdits", fn := fun _ => fun
  | [d1, d2] => { results := [.lit (.bool false)], args := [d1, d2] }
  | _ => none }
def FuzzyEditsWrongFalsely : Prop := fuzzyEditsRow.holds Try.pinned (OpenSpec.ofChange fuzzyEditsWrong)

/-- 'fustiankeep.SpansTaken': WHATEVER THE INPUT: true; the input reads as it did. -/
def spansTakenSpec : ChangeSpec := { name := "spansTaken", fn := fun _ => fun
  | [d1, d2, d3] => { results := [.lit (.bool true)], args := [d1, d2, d3] }
  | _ => none }
def spansTakenRow : OpenClaim := { program := "ytegobmlbldabbaa", sum := "23337ef5abf71cf481db944660597673947deba9dbfc1f9b5ab15f9377da36cf", func := "fustian/fustiankeep.SpansTaken", spec := "spansTaken", unfollowed := true, recurses := true, apart := false }
def SpansTakenSaid : Prop := spansTakenRow.holds Try.pinned (OpenSpec.ofChange spansTakenSpec)

/-- ITS FALSE NEIGHBOUR: 'it returns false'. Refute it at one input. -/
def spansTakenWrong : ChangeSpec := { name := "spansTaken", fn := fun _ => fun
  | [d1, d2, d3] => { results := [.lit (.bool false)], args := [d1, d2, d3] }
  | _ => none }
def SpansTakenWrongFalsely : Prop := spansTakenRow.holds Try.pinned (OpenSpec.ofChange spansTakenWrong)

/-- 'fustiankeep.MergeOne': WHATEVER THE INPUT: true; the input reads as it did. -/
def mergeOneSpec : ChangeSpec := { name := "mergeOne", fn := fun _ => fun
  | [d1, d2, d3] => { results := [.lit (.bool true)], args := [d1, d2, d3] }
  | _ => none }
def mergeOneRow : OpenClaim := { program := "ytegobmlbldabbaa", sum := "23337ef5abf71cf481db944660597673947deba9dbfc1f9b5ab15f9377da36cf", func := "fustian/fustiankeep.MergeOne", spec := "mergeOne", unfollowed := true, recurses := true, apart := false }
def MergeOneSaid : Prop := mergeOneRow.holds Try.pinned (OpenSpec.ofChange mergeOneSpec)

/-- ITS FALSE NEIGHBOUR: 'it returns false'. Refute it at one input. -/
def mergeOneWrong : ChangeSpec := { name := "mergeOne", fn := fun _ => fun
  | [d1, d2, d3] => { results := [.lit (.bool false)], args := [d1, d2, d3] }
  | _ => none }
def MergeOneWrongFalsely : Prop := mergeOneRow.holds Try.pinned (OpenSpec.ofChange mergeOneWrong)

/-- 'fustiankeep.MergeTurned': WHATEVER THE INPUT: true; the input reads as it did. -/
def mergeTurnedSpec : ChangeSpec := { name := "mergeTurned", fn := fun _ => fun
  | [d1, d2, d3, d4] => { results := [.lit (.bool true)], args := [d1, d2, d3, d4] }
  | _ => none }
def mergeTurnedRow : OpenClaim := { program := "ytegobmlbldabbaa", sum := "23337ef5abf71cf481db944660597673947deba9dbfc1f9b5ab15f9377da36cf", func := "fustian/fustiankeep.MergeTurned", spec := "mergeTurned", unfollowed := true, recurses := true, apart := false }
def MergeTurnedSaid : Prop := mergeTurnedRow.holds Try.pinned (OpenSpec.ofChange mergeTurnedSpec)

/-- ITS FALSE NEIGHBOUR: 'it returns false'. Refute it at one input. -/
def mergeTurnedWrong : ChangeSpec := { name := "mergeTurned", fn := fun _ => fun
  | [d1, d2, d3, d4] => { results := [.lit (.bool false)], args := [d1, d2, d3, d4] }
  | _ => none }
def MergeTurnedWrongFalsely : Prop := mergeTurnedRow.holds Try.pinned (OpenSpec.ofChange mergeTurnedWrong)

/-- 'fustiankeep.MergeFar': WHATEVER THE INPUT: true; the input reads as it did. -/
def mergeFarSpec : ChangeSpec := { name := "mergeFar", fn := fun _ => fun
  | [d1, d2, d3, d4] => { results := [.lit (.bool true)], args := [d1, d2, d3, d4] }
  | _ => none }
def mergeFarRow : OpenClaim := { program := "ytegobmlbldabbaa", sum := "23337ef5abf71cf481db944660597673947deba9dbfc1f9b5ab15f9377da36cf", func := "fustian/fustiankeep.MergeFar", spec := "mergeFar", unfollowed := true, recurses := true, apart := false }
def MergeFarSaid : Prop := mergeFarRow.holds Try.pinned (OpenSpec.ofChange mergeFarSpec)

/-- ITS FALSE NEIGHBOUR: 'it returns false'. Refute it at one input. -/
def mergeFarWrong : ChangeSpec := { name := "mergeFar", fn := fun _ => fun
  | [d1, d2, d3, d4] => { results := [.lit (.bool false)], args := [d1, d2, d3, d4] }
  | _ => none }
def MergeFarWrongFalsely : Prop := mergeFarRow.holds Try.pinned (OpenSpec.ofChange mergeFarWrong)

/-- 'fustiantop.TopHistory': WHATEVER THE INPUT: true; the input reads as it did. -/
def topHistorySpec : ChangeSpec := { name := "topHistory", fn := fun _ => fun
  | [d1, d2] => { results := [.lit (.bool true)], args := [d1, d2] }
  | _ => none }
def topHistoryRow : OpenClaim := { program := "ytegobmlbldabbaa", sum := "23337ef5abf71cf481db944660597673947deba9dbfc1f9b5ab15f9377da36cf", func := "fustian/fustiantop.TopHistory", spec := "topHistory", apart := false }
def TopHistorySaid : Prop := topHistoryRow.holds Try.pinned (OpenSpec.ofChange topHistorySpec)

/-- ITS FALSE NEIGHBOUR: 'it returns false'. Refute it at one input. -/
def topHistoryWrong : ChangeSpec := { name := "topHistory", fn := fun _ => fun
  | [d1, d2] => { results := [.lit (.bool false)], args := [d1, d2] }
  | _ => none }
def TopHistoryWrongFalsely : Prop := topHistoryRow.holds Try.pinned (OpenSpec.ofChange topHistoryWrong)

/-- 'fustiankeep.MarksSorted': WHATEVER THE INPUT: true; the input reads as it did. -/
def marksSortedSpec : ChangeSpec := { name := "marksSorted", fn := fun _ => fun
  | [d1, d2, d3] => { results := [.lit (.bool true)], args := [d1, d2, d3] }
  | _ => none }
def marksSortedRow : OpenClaim := { program := "ytegobmlbldabbaa", sum := "23337ef5abf71cf481db944660597673947deba9dbfc1f9b5ab15f9377da36cf", func := "fustian/fustiankeep.MarksSorted", spec := "marksSorted", unfollowed := true, recurses := true, apart := false }
def MarksSortedSaid : Prop := marksSortedRow.holds Try.pinned (OpenSpec.ofChange marksSortedSpec)

/-- ITS FALSE NEIGHBOUR: 'it returns false'. Refute it at one input. -/
def marksSortedWrong : ChangeSpec := { name := "marksSorted", fn := fun _ => fun
  | [d1, d2, d3] => { results := [.lit (.bool false)], args := [d1, d2, d3] }
  | _ => none }
def MarksSortedWrongFalsely : Prop := marksSortedRow.holds Try.pinned (OpenSpec.ofChange marksSortedWrong)

/-- 'fustiankeep.DiffBack': WHATEVER THE INPUT: true; the input reads as it did. -/
def diffBackSpec : ChangeSpec := { name := "diffBack", fn := fun _ => fun
  | [d1, d2, d3] => { results := [.lit (.bool true)], args := [d1, d2, d3] }
  | _ => none }
def diffBackRow : OpenClaim := { program := "ytegobmlbldabbaa", sum := "23337ef5abf71cf481db944660597673947deba9dbfc1f9b5ab15f9377da36cf", func := "fustian/fustiankeep.DiffBack", spec := "diffBack", unfollowed := true, recurses := true, apart := false }
def DiffBackSaid : Prop := diffBackRow.holds Try.pinned (OpenSpec.ofChange diffBackSpec)

/-- ITS FALSE NEIGHBOUR: 'it returns false'. Refute it at one input. -/
def diffBackWrong : ChangeSpec := { name := "diffBack", fn := fun _ => fun
  | [d1, d2, d3] => { results := [.lit (.bool false)], args := [d1, d2, d3] }
  | _ => none }
def DiffBackWrongFalsely : Prop := diffBackRow.holds Try.pinned (OpenSpec.ofChange diffBackWrong)

/-- 'fustiankeep.SpansAlgebra': WHATEVER THE INPUT: true; the input reads as it did. -/
def spansAlgebraSpec : ChangeSpec := { name := "spansAlgebra", fn := fun _ => fun
  | [d1, d2, d3, d4] => { results := [.lit (.bool true)], args := [d1, d2, d3, d4] }
  | _ => none }
def spansAlgebraRow : OpenClaim := { program := "ytegobmlbldabbaa", sum := "23337ef5abf71cf481db944660597673947deba9dbfc1f9b5ab15f9377da36cf", func := "fustian/fustiankeep.SpansAlgebra", spec := "spansAlgebra", inPlace := ["slices.overlaps[fustian/api.Span]"], unfollowed := true, recurses := true, apart := false }
def SpansAlgebraSaid : Prop := spansAlgebraRow.holds Try.pinned (OpenSpec.ofChange spansAlgebraSpec)

/-- ITS FALSE NEIGHBOUR: 'it returns false'. Refute it at one input. -/
def spansAlgebraWrong : ChangeSpec := { name := "spansAlgebra", fn := fun _ => fun
  | [d1, d2, d3, d4] => { results := [.lit (.bool false)], args := [d1, d2, d3, d4] }
  | _ => none }
def SpansAlgebraWrongFalsely : Prop := spansAlgebraRow.holds Try.pinned (OpenSpec.ofChange spansAlgebraWrong)

/- THE SECOND FORM. 'bulk': how many values and letters a reading holds, each counted each time it is reached (what is shared counts as often as it is met; a slice's spare places count too). A statement '..UptoSaid' is the law's where the arguments, and the package variables that the reading takes, are together of bulk at most 1048576: NARROWER than '..Said'. Prove '..Said' where nothing that the law and all that it calls make is longer than what came in: it says more and counts as full. Else prove '..UptoSaid'. A law counts once. -/
mutual
def uptoBulk {H : Type} : DataW H → Nat
  | .lit (.string bytes) => bytes.length + 1
  | .lit _ => 1
  | .nil => 1
  | .ptr d => uptoBulk d + 1
  | .slice elems spare => uptoBulkAll elems + uptoBulkAll spare + 1
  | .agg parts => uptoBulkAll parts + 1
  | .iface _ d => uptoBulk d + 1
  | .map entries => uptoBulkEntries entries + 1
  | .held _ => 1
def uptoBulkAll {H : Type} : List (DataW H) → Nat
  | [] => 0
  | d :: r => uptoBulk d + uptoBulkAll r
def uptoBulkEntries {H : Type} : List (Lit × DataW H) → Nat
  | [] => 0
  | x :: r => uptoBulkEntry x + uptoBulkEntries r
def uptoBulkEntry {H : Type} : Lit × DataW H → Nat
  | (.string bytes, d) => bytes.length + uptoBulk d + 1
  | (_, d) => uptoBulk d + 1
 end
def uptoSmall : (H : Type) → List (DataW H) → Bool := fun _ ds => decide (uptoBulkAll ds ≤ 1048576)
def OpenSpec.upto (s : _root_.Go.ChangeSpec) : _root_.Go.OpenSpec := { _root_.Go.OpenSpec.ofChange s with cond := some uptoSmall }

/-- 'fustiankeep.LogBack', WHERE WHAT IT READS IS OF BULK AT MOST 1048576: true; the input reads as it did. -/
def logBackUptoRow : OpenClaim := { program := "ytegobmlbldabbaa", sum := "23337ef5abf71cf481db944660597673947deba9dbfc1f9b5ab15f9377da36cf", func := "fustian/fustiankeep.LogBack", spec := "logBack", apart := false, narrowed := true }
def LogBackUptoSaid : Prop := logBackUptoRow.holds Try.pinned (OpenSpec.upto logBackSpec)

/-- 'fustiankeep.LogFixed', WHERE WHAT IT READS IS OF BULK AT MOST 1048576: true; the input reads as it did. -/
def logFixedUptoRow : OpenClaim := { program := "ytegobmlbldabbaa", sum := "23337ef5abf71cf481db944660597673947deba9dbfc1f9b5ab15f9377da36cf", func := "fustian/fustiankeep.LogFixed", spec := "logFixed", apart := false, narrowed := true }
def LogFixedUptoSaid : Prop := logFixedUptoRow.holds Try.pinned (OpenSpec.upto logFixedSpec)

/-- 'fustiankeep.FuzzyEdits', WHERE WHAT IT READS IS OF BULK AT MOST 1048576: true; the input reads as it did. -/
def fuzzyEditsUptoRow : OpenClaim := { program := "ytegobmlbldabbaa", sum := "23337ef5abf71cf481db944660597673947deba9dbfc1f9b5ab15f9377da36cf", func := "fustian/fustiankeep.FuzzyEdits", spec := "fuzzyEdits", unfollowed := true, recurses := true, apart := false, narrowed := true }
def FuzzyEditsUptoSaid : Prop := fuzzyEditsUptoRow.holds Try.pinned (OpenSpec.upto fuzzyEditsSpec)

/-- 'fustiankeep.SpansTaken', WHERE WHAT IT READS IS OF BULK AT MOST 1048576: true; the input reads as it did. -/
def spansTakenUptoRow : OpenClaim := { program := "ytegobmlbldabbaa", sum := "23337ef5abf71cf481db944660597673947deba9dbfc1f9b5ab15f9377da36cf", func := "fustian/fustiankeep.SpansTaken", spec := "spansTaken", unfollowed := true, recurses := true, apart := false, narrowed := true }
def SpansTakenUptoSaid : Prop := spansTakenUptoRow.holds Try.pinned (OpenSpec.upto spansTakenSpec)

/-- 'fustiankeep.MergeOne', WHERE WHAT IT READS IS OF BULK AT MOST 1048576: true; the input reads as it did. -/
def mergeOneUptoRow : OpenClaim := { program := "ytegobmlbldabbaa", sum := "23337ef5abf71cf481db944660597673947deba9dbfc1f9b5ab15f9377da36cf", func := "fustian/fustiankeep.MergeOne", spec := "mergeOne", unfollowed := true, recurses := true, apart := false, narrowed := true }
def MergeOneUptoSaid : Prop := mergeOneUptoRow.holds Try.pinned (OpenSpec.upto mergeOneSpec)

/-- 'fustiankeep.MergeTurned', WHERE WHAT IT READS IS OF BULK AT MOST 1048576: true; the input reads as it did. -/
def mergeTurnedUptoRow : OpenClaim := { program := "ytegobmlbldabbaa", sum := "23337ef5abf71cf481db944660597673947deba9dbfc1f9b5ab15f9377da36cf", func := "fustian/fustiankeep.MergeTurned", spec := "mergeTurned", unfollowed := true, recurses := true, apart := false, narrowed := true }
def MergeTurnedUptoSaid : Prop := mergeTurnedUptoRow.holds Try.pinned (OpenSpec.upto mergeTurnedSpec)

/-- 'fustiankeep.MergeFar', WHERE WHAT IT READS IS OF BULK AT MOST 1048576: true; the input reads as it did. -/
def mergeFarUptoRow : OpenClaim := { program := "ytegobmlbldabbaa", sum := "23337ef5abf71cf481db944660597673947deba9dbfc1f9b5ab15f9377da36cf", func := "fustian/fustiankeep.MergeFar", spec := "mergeFar", unfollowed := true, recurses := true, apart := false, narrowed := true }
def MergeFarUptoSaid : Prop := mergeFarUptoRow.holds Try.pinned (OpenSpec.upto mergeFarSpec)

/-- 'fustiantop.TopHistory', WHERE WHAT IT READS IS OF BULK AT MOST 1048576: true; the input reads as it did. -/
def topHistoryUptoRow : OpenClaim := { program := "ytegobmlbldabbaa", sum := "23337ef5abf71cf481db944660597673947deba9dbfc1f9b5ab15f9377da36cf", func := "fustian/fustiantop.TopHistory", spec := "topHistory", apart := false, narrowed := true }
def TopHistoryUptoSaid : Prop := topHistoryUptoRow.holds Try.pinned (OpenSpec.upto topHistorySpec)

/-- 'fustiankeep.MarksSorted', WHERE WHAT IT READS IS OF BULK AT MOST 1048576: true; the input reads as it did. -/
def marksSortedUptoRow : OpenClaim := { program := "ytegobmlbldabbaa", sum := "23337ef5abf71cf481db944660597673947deba9dbfc1f9b5ab15f9377da36cf", func := "fustian/fustiankeep.MarksSorted", spec := "marksSorted", unfollowed := true, recurses := true, apart := false, narrowed := true }
def MarksSortedUptoSaid : Prop := marksSortedUptoRow.holds Try.pinned (OpenSpec.upto marksSortedSpec)

/-- 'fustiankeep.DiffBack', WHERE WHAT IT READS IS OF BULK AT MOST 1048576: true; the input reads as it did. -/
def diffBackUptoRow : OpenClaim := { program := "ytegobmlbldabbaa", sum := "23337ef5abf71cf481db944660597673947deba9dbfc1f9b5ab15f9377da36cf", func := "fustian/fustiankeep.DiffBack", spec := "diffBack", unfollowed := true, recurses := true, apart := false, narrowed := true }
def DiffBackUptoSaid : Prop := diffBackUptoRow.holds Try.pinned (OpenSpec.upto diffBackSpec)

/-- 'fustiankeep.SpansAlgebra', WHERE WHAT IT READS IS OF BULK AT MOST 1048576: true; the input reads as it did. -/
def spansAlgebraUptoRow : OpenClaim := { program := "ytegobmlbldabbaa", sum := "23337ef5abf71cf481db944660597673947deba9dbfc1f9b5ab15f9377da36cf", func := "fustian/fustiankeep.SpansAlgebra", spec := "spansAlgebra", inPlace := ["slices.overlaps[fustian/api.Span]"], unfollowed := true, recurses := true, apart := false, narrowed := true }
def SpansAlgebraUptoSaid : Prop := spansAlgebraUptoRow.holds Try.pinned (OpenSpec.upto spansAlgebraSpec)

end Rows
end Go.Proofs.Ytegobmlbldabbaa
