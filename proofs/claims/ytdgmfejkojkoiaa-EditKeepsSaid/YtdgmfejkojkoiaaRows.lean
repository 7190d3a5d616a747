/-
  No cell of these rows narrows 'for every input' (looked for: loops, veiled, ifaces, maps, wideKeys, modest, calm, conditions, laid).
  DERIVED. THE GIVEN ROWS OF THIS SEAT. 12 by the template 'for every input the law returns true; each argument reads behind the call as it read before'; 0 by the template 'total and deterministic' (their statements: YtdgmfejkojkoiaaTotals.lean).
  GIVEN WITH THE SEED: the statements are not yours to turn. If you find one false, say at which input.
  Laid BY PROGRAM, IN A SANDBOX (cutbox-rows.mjs): the forced cells as the released guide's own fill.sh prints them over the translation 6a5bb7212c9e2677… (all of the seat's roots in one cut). By AI agents, Wed Nov 11 2026. No macro, syntax, notation, axiom, sorry.
-/
import Derived.Test.YtdgmfejkojkoiaaChecked
import GoSem.Claim
import GoSem.ClaimJoined
import GoSem.ClaimMapViews
import Derived.JoinedTies
import Derived.KernelRfl
namespace Go.Proofs.Ytdgmfejkojkoiaa
/- THE CELL 'sum', in the pinned program and in every row, IS THE sha256 OF THE DUMP (.gsa) THAT YtdgmfejkojkoiaaProg.lean LOADS. Nothing in Lean hashes anything: it is a label: what it is worth is what the hold of that sum in a sandbox is worth. -/
noncomputable def Try.pinned : Pinned := { name := "ytdgmfejkojkoiaa", sum := "6a5bb7212c9e2677c2216ab9e646bdfdcb8ef98b0b02d50e98815f32cd009e1f", checked := Try.checked }
namespace Rows
def none {H : Type} : Left H := { results := [], args := [] }

/-- 'fustiankeep.EditKeeps': WHATEVER THE INPUT: true; the input reads as it did. -/
def editKeepsSpec : ChangeSpec := { name := "editKeeps", fn := fun _ => fun
  | [d1, d2, d3, d4] => { results := [.lit (.bool true)], args := [d1, d2, d3, d4] }
  | _ => none }
def editKeepsRow : OpenClaim := { program := "ytdgmfejkojkoiaa", sum := "6a5bb7212c9e2677c2216ab9e646bdfdcb8ef98b0b02d50e98815f32cd009e1f", func := "fustian/fustiankeep.EditKeeps", spec := "editKeeps", apart := false }
def EditKeepsSaid : Prop := editKeepsRow.holds Try.pinned (OpenSpec.ofChange editKeepsSpec)

/-- ITS FALSE NEIGHBOUR: 'it returns false'. Refute it at one input. -/
def editKeepsWrong : ChangeSpec := { name := "editKeeps", fn := fun _ => fun
  | [d1, d2, d3, d4] => { results := [.lit (.bool false)], args := [d1, d2, d3, d4] }
  | _ => none }
def EditKeepsWrongFalsely : Prop := editKeepsRow.holds Try.pinned (OpenSpec.ofChange editKeepsWrong)

/-- 'fustiankeep.EditCommutes': WHATEVER THE INPUT: true; the input reads as it did. -/
def editCommutesSpec : ChangeSpec := { name := "editCommutes", fn := fun _ => fun
  | [d1, d2, d3] => { results := [.lit (.bool true)], args := [d1, d2, d3] }
  | _ => none }
def editCommutesRow : OpenClaim := { program := "ytdgmfejkojkoiaa", sum := "6a5bb7212c9e2677c2216ab9e646bdfdcb8ef98b0b02d50e98815f32cd009e1f", func := "fustian/fustiankeep.EditCommutes", spec := "editCommutes", apart := false }
def EditCommutesSaid : Prop := editCommutesRow.holds Try.pinned (OpenSpec.ofChange editCommutesSpec)

/-- ITS FALSE NEIGHBOUR: 'it returns false'. Refute it at one input. -/
def editCommutesWrong : ChangeSpec := { name := "editCommutes", fn := fun _ => fun
  | [d1, d2, d3] => { results := [.lit (.bool false)], args := [d1, d2, d3] }
  | _ => none }
def EditCommutesWrongFalsely : Prop := editCommutesRow.holds Try.pinned (OpenSpec.ofChange editCommutesWrong)

/-- 'fustiankeep.MarksOrdered': WHATEVER THE INPUT: true; the input reads as it did. -/
def marksOrderedSpec : ChangeSpec := { name := "marksOrdered", fn := fun _ => fun
  | [d1, d2, d3] => { results := [.lit (.bool true)], args := [d1, d2, d3] }
  | _ => none }
def marksOrderedRow : OpenClaim := { program := "ytdgmfejkojkoiaa", sum := "6a5bb7212c9e2677c2216ab9e646bdfdcb8ef98b0b02d50e98815f32cd009e1f", func := "fustian/fustiankeep.MarksOrdered", spec := "marksOrdered", unfollowed := true, recurses := true, apart := false }
def MarksOrderedSaid : Prop := marksOrderedRow.holds Try.pinned (OpenSpec.ofChange marksOrderedSpec)

/-- ITS FALSE NEIGHBOUR: 'it returns false'. Refute it at one input. -/
def marksOrderedWrong : ChangeSpec := { name := "marksOrdered", fn := fun _ => fun
  | [d1, d2, d3] => { results := [.lit (.bool false)], args := [d1, d2, d3] }
  | _ => none }
def MarksOrderedWrongFalsely : Prop := marksOrderedRow.holds Try.pinned (OpenSpec.ofChange marksOrderedWrong)

/-- 'fustiankeep.MarksUndone': WHATEVER THE INPUT: true; the input reads as it did. -/
def marksUndoneSpec : ChangeSpec := { name := "marksUndone", fn := fun _ => fun
  | [d1, d2, d3] => { results := [.lit (.bool true)], args := [d1, d2, d3] }
  | _ => none }
def marksUndoneRow : OpenClaim := { program := "ytdgmfejkojkoiaa", sum := "6a5bb7212c9e2677c2216ab9e646bdfdcb8ef98b0b02d50e98815f32cd009e1f", func := "fustian/fustiankeep.MarksUndone", spec := "marksUndone", unfollowed := true, recurses := true, apart := false }
def MarksUndoneSaid : Prop := marksUndoneRow.holds Try.pinned (OpenSpec.ofChange marksUndoneSpec)

/-- ITS FALSE NEIGHBOUR: 'it returns false'. Refute it at one input. -/
def marksUndoneWrong : ChangeSpec := { name := "marksUndone", fn := fun _ => fun
  | [d1, d2, d3] => { results := [.lit (.bool false)], args := [d1, d2, d3] }
  | _ => none }
def MarksUndoneWrongFalsely : Prop := marksUndoneRow.holds Try.pinned (OpenSpec.ofChange marksUndoneWrong)

/-- 'fustiankeep.MarksParts': WHATEVER THE INPUT: true; the input reads as it did. -/
def marksPartsSpec : ChangeSpec := { name := "marksParts", fn := fun _ => fun
  | [d1, d2, d3, d4] => { results := [.lit (.bool true)], args := [d1, d2, d3, d4] }
  | _ => none }
def marksPartsRow : OpenClaim := { program := "ytdgmfejkojkoiaa", sum := "6a5bb7212c9e2677c2216ab9e646bdfdcb8ef98b0b02d50e98815f32cd009e1f", func := "fustian/fustiankeep.MarksParts", spec := "marksParts", unfollowed := true, recurses := true, apart := false }
def MarksPartsSaid : Prop := marksPartsRow.holds Try.pinned (OpenSpec.ofChange marksPartsSpec)

/-- ITS FALSE NEIGHBOUR: 'it returns false'. Refute it at one input. -/
def marksPartsWrong : ChangeSpec := { name := "marksParts", fn := fun _ => fun
  | [d1, d2, d3, d4] => { results := [.lit (.bool false)], args := [d1, d2, d3, d4] }
  | _ => none }
def MarksPartsWrongFalsely : Prop := marksPartsRow.holds Try.pinned (OpenSpec.ofChange marksPartsWrong)

/-- 'fustiankeep.MarksWithin': WHATEVER THE INPUT: true; the input reads as it did. -/
def marksWithinSpec : ChangeSpec := { name := "marksWithin", fn := fun _ => fun
  | [d1, d2, d3] => { results := [.lit (.bool true)], args := [d1, d2, d3] }
  | _ => none }
def marksWithinRow : OpenClaim := { program := "ytdgmfejkojkoiaa", sum := "6a5bb7212c9e2677c2216ab9e646bdfdcb8ef98b0b02d50e98815f32cd009e1f", func := "fustian/fustiankeep.MarksWithin", spec := "marksWithin", unfollowed := true, recurses := true, apart := false }
def MarksWithinSaid : Prop := marksWithinRow.holds Try.pinned (OpenSpec.ofChange marksWithinSpec)

/-- ITS FALSE NEIGHBOUR: 'it returns false'. Refute it at one input. -/
def marksWithinWrong : ChangeSpec := { name := "marksWithin", fn := fun _ => fun
  | [d1, d2, d3] => { results := [.lit (.bool false)], args := [d1, d2, d3] }
  | _ => none }
def MarksWithinWrongFalsely : Prop := marksWithinRow.holds Try.pinned (OpenSpec.ofChange marksWithinWrong)

/-- 'fustiankeep.LinesFollow': WHATEVER THE INPUT: true; the input reads as it did. -/
def linesFollowSpec : ChangeSpec := { name := "linesFollow", fn := fun _ => fun
  | [d1, d2] => { results := [.lit (.bool true)], args := [d1, d2] }
  | _ => none }
def linesFollowRow : OpenClaim := { program := "ytdgmfejkojkoiaa", sum := "6a5bb7212c9e2677c2216ab9e646bdfdcb8ef98b0b02d50e98815f32cd009e1f", func := "fustian/fustiankeep.LinesFollow", spec := "linesFollow", unfollowed := true, recurses := true, apart := false }
def LinesFollowSaid : Prop := linesFollowRow.holds Try.pinned (OpenSpec.ofChange linesFollowSpec)

/-- ITS FALSE NEIGHBOUR: 'it returns false'. Refute it at one input. -/
def linesFollowWrong : ChangeSpec := { name := "linesFollow", fn := fun _ => fun
  | [d1, d2] => { results := [.lit (.bool false)], args := [d1, d2] }
  | _ => none }
def LinesFollowWrongFalsely : Prop := linesFollowRow.holds Try.pinned (OpenSpec.ofChange linesFollowWrong)

/-- 'fustiantop.TopMarks': WHATEVER THE INPUT: true; the input reads as it did. -/
def topMarksSpec : ChangeSpec := { name := "topMarks", fn := fun _ => fun
  | [d1, d2] => { results := [.lit (.bool true)], args := [d1, d2] }
  | _ => none }
def topMarksRow : OpenClaim := { program := "ytdgmfejkojkoiaa", sum := "6a5bb7212c9e2677c2216ab9e646bdfdcb8ef98b0b02d50e98815f32cd009e1f", func := "fustian/fustiantop.TopMarks", spec := "topMarks", unfollowed := true, recurses := true, apart := false }
def TopMarksSaid : Prop := topMarksRow.holds Try.pinned (OpenSpec.ofChange topMarksSpec)

/-- ITS FALSE NEIGHBOUR: 'it returns false'. Refute it at one input. -/
def topMarksWrong : ChangeSpec := { name := "topMarks", fn := fun _ => fun
  | [d1, d2] => { results := [.lit (.bool false)], args := [d1, d2] }
  | _ => none }
def TopMarksWrongFalsely : Prop := topMarksRow.holds Try.pinned (OpenSpec.ofChange topMarksWrong)

/-- 'fustiankeep.HistRefused': WHATEVER THE INPUT: true; the input reads as it did. -/
def histRefusedSpec : ChangeSpec := { name := "histRefused", fn := fun _ => fun
  | [d1, d2] => { results := [.lit (.bool true)], args := [d1, d2] }
  | _ => none }
def histRefusedRow : OpenClaim := { program := "ytdgmfejkojkoiaa", sum := "6a5bb7212c9e2677c2216ab9e646bdfdcb8ef98b0b02d50e98815f32cd009e1f", func := "fustian/fustiankeep.HistRefused", spec := "histRefused", apart := false }
def HistRefusedSaid : Prop := histRefusedRow.holds Try.pinned (OpenSpec.ofChange histRefusedSpec)

/-- ITS FALSE NEIGHBOUR: 'it returns false'. Refute it at one input. -/
def histRefusedWrong : ChangeSpec := { name := "histRefused", fn := fun _ => fun
  | [d1, d2] => { results := [.lit (.bool false)], args := [d1, d2] }
  | _ => none }
def HistRefusedWrongFalsely : Prop := histRefusedRow.holds Try.pinned (OpenSpec.ofChange histRefusedWrong)

/-- 'fustiankeep.HistThere': WHATEVER THE INPUT: true; the input reads as it did. -/
def histThereSpec : ChangeSpec := { name := "histThere", fn := fun _ => fun
  | [d1, d2, d3] => { results := [.lit (.bool true)], args := [d1, d2, d3] }
  | _ => none }
def histThereRow : OpenClaim := { program := "ytdgmfejkojkoiaa", sum := "6a5bb7212c9e2677c2216ab9e646bdfdcb8ef98b0b02d50e98815f32cd009e1f", func := "fustian/fustiankeep.HistThere", spec := "histThere", apart := false }
def HistThereSaid : Prop := histThereRow.holds Try.pinned (OpenSpec.ofChange histThereSpec)

/-- ITS FALSE NEIGHBOUR: 'it returns false'. Refute it at one input. -/
def histThereWrong : ChangeSpec := { name := "histThere", fn := fun _ => fun
  | [d1, d2, d3] => { results := [.lit (.bool false)], args := [d1, d2, d3] }
  | _ => none }
def HistThereWrongFalsely : Prop := histThereRow.holds Try.pinned (OpenSpec.ofChange histThereWrong)

/-- 'fustiankeep.HistBegin': WHATEVER THE INPUT: true; the input reads as it did. -/
def histBeginSpec : ChangeSpec := { name := "histBegin", fn := fun _ => fun
  | [d1, d2] => { results := [.lit (.bool true)], args := [d1, d2] }
  | _ => none }
def histBeginRow : OpenClaim := { program := "ytdgmfejkojkoiaa", sum := "6a5bb7212c9e2677c2216ab9e646bdfdcb8ef98b0b02d50e98815f32cd009e1f", func := "fustian/fustiankeep.HistBegin", spec := "histBegin", apart := false }
def HistBeginSaid : Prop := histBeginRow.holds Try.pinned (OpenSpec.ofChange histBeginSpec)

/-- ITS FALSE NEIGHBOUR: 'it returns false'. Refute it at one input. -/
def histBeginWrong : ChangeSpec := { name := "histBegin", fn := fun _ => fun
  | [d1, d2] => { results := [.lit (.bool false)], args := [d1, d2] }
  | _ => none }
def HistBeginWrongFalsely : Prop := histBeginRow.holds Try.pinned (OpenSpec.ofChange histBeginWrong)

/-- 'fustiankeep.HistGroups': WHATEVER THE INPUT: true; the input reads as it did. -/
def histGroupsSpec : ChangeSpec := { name := "histGroups", fn := fun _ => fun
  | [d1, d2, d3] => { results := [.lit (.bool true)], args := [d1, d2, d3] }
  | _ => none }
def histGroupsRow : OpenClaim := { program := "ytdgmfejkojkoiaa", sum := "6a5bb7212c9e2677c2216ab9e646bdfdcb8ef98b0b02d50e98815f32cd009e1f", func := "fustian/fustiankeep.HistGroups", spec := "histGroups", apart := false }
def HistGroupsSaid : Prop := histGroupsRow.holds Try.pinned (OpenSpec.ofChange histGroupsSpec)

/-- ITS FALSE NEIGHBOUR: 'it returns false'. Refute it at one input. -/
def histGroupsWrong : ChangeSpec := { name := "histGroups", fn := fun _ => fun
  | [d1, d2, d3] => { results := [.lit (.bool false)], args := [d1, d2, d3] }
  | _ => none }
def HistGroupsWrongFalsely : Prop := histGroupsRow.holds Try.pinned (OpenSpec.ofChange histGroupsWrong)

/- THE SECOND FORM. 'bulk': how many values and letters a reading holds, each counted each time it is reached (what is shared counts as often as it is met; a slice's spare places count too). A statement '..UptoSaid' is the law's where the arguments, and the package variables that the reading takes, are together of bulk at most 1048576: NARROWER than '..Said'. Prove '..Said' where nothing that the law and all that it calls make is longer than what came in: it says more and counts as full. Else prove '..UptoSaid'. A law counts once. -/
mutual
def uptoBulk {H : Type} : DataW H → Nat
  | .lit (.string bytes) => bytes.length + 1
  | .lit _ => 1
  | .nil => 1
  | .ptr d => uptoBulk d + 1
  | .slice elems spare => uptoBulkAll elems + uptoBulkAll spare + 1
  | .agg parts => uptoBulkAll parts + 1
  | .iface _ d => uptoBulk d + 1
  | .map entries => uptoBulkEntries entries + 1
  | .held _ => 1
def uptoBulkAll {H : Type} : List (DataW H) → Nat
  | [] => 0
  | d :: r => uptoBulk d + uptoBulkAll r
def uptoBulkEntries {H : Type} : List (Lit × DataW H) → Nat
  | [] => 0
  | x :: r => uptoBulkEntry x + uptoBulkEntries r
def uptoBulkEntry {H : Type} : Lit × DataW H → Nat
  | (.string bytes, d) => bytes.length + uptoBulk d + 1
  | (_, d) => uptoBulk d + 1
 end
def uptoSmall : (H : Type) → List (DataW H) → Bool := fun _ ds => decide (uptoBulkAll ds ≤ 1048576)
def OpenSpec.upto (s : _root_.Go.ChangeSpec) : _root_.Go.OpenSpec := { _root_.Go.OpenSpec.ofChange s with cond := some uptoSmall }

/-- 'fustiankeep.EditKeeps', WHERE WHAT IT READS IS OF BULK AT MOST 1048576: true; the input reads as it did. -/
def editKeepsUptoRow : OpenClaim := { program := "ytdgmfejkojkoiaa", sum := "6a5bb7212c9e2677c2216ab9e646bdfdcb8ef98b0b02d50e98815f32cd009e1f", func := "fustian/fustiankeep.EditKeeps", spec := "editKeeps", apart := false, narrowed := true }
def EditKeepsUptoSaid : Prop := editKeepsUptoRow.holds Try.pinned (OpenSpec.upto editKeepsSpec)

/-- 'fustiankeep.EditCommutes', WHERE WHAT IT READS IS OF BULK AT MOST 1048576: true; the input reads as it did. -/
def editCommutesUptoRow : OpenClaim := { program := "ytdgmfejkojkoiaa", sum := "6a5bb7212c9e2677c2216ab9e646bdfdcb8ef98b0b02d50e98815f32cd009e1f", func := "fustian/fustiankeep.EditCommutes", spec := "editCommutes", apart := false, narrowed := true }
def EditCommutesUptoSaid : Prop := editCommutesUptoRow.holds Try.pinned (OpenSpec.upto editCommutesSpec)

/-- 'fustiankeep.MarksOrdered', WHERE WHAT IT READS IS OF BULK AT MOST 1048576: true; the input reads as it did. -/
def marksOrderedUptoRow : OpenClaim := { program := "ytdgmfejkojkoiaa", sum := "6a5bb7212c9e2677c2216ab9e646bdfdcb8ef98b0b02d50e98815f32cd009e1f", func := "fustian/fustiankeep.MarksOrdered", spec := "marksOrdered", unfollowed := true, recurses := true, apart := false, narrowed := true }
def MarksOrderedUptoSaid : Prop := marksOrderedUptoRow.holds Try.pinned (OpenSpec.upto marksOrderedSpec)

/-- 'fustiankeep.MarksUndone', WHERE WHAT IT READS IS OF BULK AT MOST 1048576: true; the input reads as it did. -/
def marksUndoneUptoRow : OpenClaim := { program := "ytdgmfejkojkoiaa", sum := "6a5bb7212c9e2677c2216ab9e646bdfdcb8ef98b0b02d50e98815f32cd009e1f", func := "fustian/fustiankeep.MarksUndone", spec := "marksUndone", unfollowed := true, recurses := true, apart := false, narrowed := true }
def MarksUndoneUptoSaid : Prop := marksUndoneUptoRow.holds Try.pinned (OpenSpec.upto marksUndoneSpec)

/-- 'fustiankeep.MarksParts', WHERE WHAT IT READS IS OF BULK AT MOST 1048576: true; the input reads as it did. -/
def marksPartsUptoRow : OpenClaim := { program := "ytdgmfejkojkoiaa", sum := "6a5bb7212c9e2677c2216ab9e646bdfdcb8ef98b0b02d50e98815f32cd009e1f", func := "fustian/fustiankeep.MarksParts", spec := "marksParts", unfollowed := true, recurses := true, apart := false, narrowed := true }
def MarksPartsUptoSaid : Prop := marksPartsUptoRow.holds Try.pinned (OpenSpec.upto marksPartsSpec)

/-- 'fustiankeep.MarksWithin', WHERE WHAT IT READS IS OF BULK AT MOST 1048576: true; the input reads as it did. -/
def marksWithinUptoRow : OpenClaim := { program := "ytdgmfejkojkoiaa", sum := "6a5bb7212c9e2677c2216ab9e646bdfdcb8ef98b0b02d50e98815f32cd009e1f", func := "fustian/fustiankeep.MarksWithin", spec := "marksWithin", unfollowed := true, recurses := true, apart := false, narrowed := true }
def MarksWithinUptoSaid : Prop := marksWithinUptoRow.holds Try.pinned (OpenSpec.upto marksWithinSpec)

/-- 'fustiankeep.LinesFollow', WHERE WHAT IT READS IS OF BULK AT MOST 1048576: true; the input reads as it did. -/
def linesFollowUptoRow : OpenClaim := { program := "ytdgmfejkojkoiaa", sum := "6a5bb7212c9e2677c2216ab9e646bdfdcb8ef98b0b02d50e98815f32cd009e1f", func := "fustian/fustiankeep.LinesFollow", spec := "linesFollow", unfollowed := true, recurses := true, apart := false, narrowed := true }
def LinesFollowUptoSaid : Prop := linesFollowUptoRow.holds Try.pinned (OpenSpec.upto linesFollowSpec)

/-- 'fustiantop.TopMarks', WHERE WHAT IT READS IS OF BULK AT MOST 1048576: true; the input reads as it did. -/
def topMarksUptoRow : OpenClaim := { program := "ytdgmfejkojkoiaa", sum := "6a5bb7212c9e2677c2216ab9e646bdfdcb8ef98b0b02d50e98815f32cd009e1f", func := "fustian/fustiantop.TopMarks", spec := "topMarks", unfollowed := true, recurses := true, apart := false, narrowed := true }
def TopMarksUptoSaid : Prop := topMarksUptoRow.holds Try.pinned (OpenSpec.upto topMarksSpec)

/-- 'fustiankeep.HistRefused', WHERE WHAT IT READS IS OF BULK AT MOST 1048576: true; the input reads as it did. -/
def histRefusedUptoRow : OpenClaim := { program := "ytdgmfejkojkoiaa", sum := "6a5bb7212c9e2677c2216ab9e646bdfdcb8ef98b0b02d50e98815f32cd009e1f", func := "fustian/fustiankeep.HistRefused", spec := "histRefused", apart := false, narrowed := true }
def HistRefusedUptoSaid : Prop := histRefusedUptoRow.holds Try.pinned (OpenSpec.upto histRefusedSpec)

/-- 'fustiankeep.HistThere', WHERE WHAT IT READS IS OF BULK AT MOST 1048576: true; the input reads as it did. -/
def histThereUptoRow : OpenClaim := { program := "ytdgmfejkojkoiaa", sum := "6a5bb7212c9e2677c2216ab9e646bdfdcb8ef98b0b02d50e98815f32cd009e1f", func := "fustian/fustiankeep.HistThere", spec := "histThere", apart := false, narrowed := true }
def HistThereUptoSaid : Prop := histThereUptoRow.holds Try.pinned (OpenSpec.upto histThereSpec)

/-- 'fustiankeep.HistBegin', WHERE WHAT IT READS IS OF BULK AT MOST 1048576: true; the input reads as it did. -/
def histBeginUptoRow : OpenClaim := { program := "ytdgmfejkojkoiaa", sum := "6a5bb7212c9e2677c2216ab9e646bdfdcb8ef98b0b02d50e98815f32cd009e1f", func := "fustian/fustiankeep.HistBegin", spec := "histBegin", apart := false, narrowed := true }
def HistBeginUptoSaid : Prop := histBeginUptoRow.holds Try.pinned (OpenSpec.upto histBeginSpec)

/-- 'fustiankeep.HistGroups', WHERE WHAT IT READS IS OF BULK AT MOST 1048576: true; the input reads as it did. -/
def histGroupsUptoRow : OpenClaim := { program := "ytdgmfejkojkoiaa", sum := "6a5bb7212c9e2677c2216ab9e646bdfdcb8ef98b0b02d50e98815f32cd009e1f", func := "fustian/fustiankeep.HistGroups", spec := "histGroups", apart := false, narrowed := true }
def HistGroupsUptoSaid : Prop := histGroupsUptoRow.holds Try.pinned (OpenSpec.upto histGroupsSpec)

end Rows
end Go.Proofs.Ytdgmfejkojkoiaa
