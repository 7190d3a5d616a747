/-
  No cell of these rows narrows 'for every input' (looked for: loops, veiled, ifaces, maps, wideKeys, modest, calm, conditions, laid).
  DERIVED. THE GIVEN ROWS OF THIS SEAT. 12 by the template 'for every input the law returns true; each argument reads behind the call as it read before'; 0 by the template 'total and deterministic' (their statements: YtoijeofchnmppaaTotals.lean).
  GIVEN WITH THE SEED: the statements are not yours to turn. If you find one false, say at which input.
  Laid BY PROGRAM, IN A SANDBOX (cutbox-rows.mjs): the forced cells as the released guide's own fill.sh prints them over the translation 6f15c251e32de6ed… (all of the seat's roots in one cut). By AI agents, Wed Nov 11 2026. No macro, syntax, notation, axiom, sorry.
-/
import Derived.Test.YtoijeofchnmppaaChecked
import GoSem.Claim
import GoSem.ClaimJoined
import GoSem.ClaimMapViews
import Derived.JoinedTies
import Derived.KernelRfl
namespace Go.Proofs.Ytoijeofchnmppaa
/- THE CELL 'sum', in the pinned program and in every row, IS THE sha256 OF THE DUMP (.gsa) THAT YtoijeofchnmppaaProg.lean LOADS. Nothing in Lean hashes anything: it is a label: what it is worth is what the hold of that sum in a sandbox is worth. -/
noncomputable def Try.pinned : Pinned := { name := "ytoijeofchnmppaa", sum := "6f15c251e32de6ede7d6a58c4c1db10cf3d86e84cbc59a3e5e3d611e49ccbb81", checked := Try.checked }
namespace Rows
def none {H : Type} : Left H := { results := [], args := [] }

/-- 'fustiankeep.SchedAll': WHATEVER THE INPUT: true; the input reads as it did. -/
def schedAllSpec : ChangeSpec := { name := "schedAll", fn := fun _ => fun
  | [d] => { results := [.lit (.bool true)], args := [d] }
  | _ => none }
def schedAllRow : OpenClaim := { program := "ytoijeofchnmppaa", sum := "6f15c251e32de6ede7d6a58c4c1db10cf3d86e84cbc59a3e5e3d611e49ccbb81", func := "fustian/fustiankeep.SchedAll", spec := "schedAll", apart := false }
def SchedAllSaid : Prop := schedAllRow.holds Try.pinned (OpenSpec.ofChange schedAllSpec)

/-- ITS FALSE NEIGHBOUR: 'it returns false'. Refute it at one input. -/
def schedAllWrong : ChangeSpec := { name := "schedAll", fn := fun _ => fun
  | [d] => { results := [.lit (.bool false)], args := [d] }
  | _ => none }
def SchedAllWrongFalsely : Prop := schedAllRow.holds Try.pinned (OpenSpec.ofChange schedAllWrong)

/-- 'fustiankeep.SchedFair': WHATEVER THE INPUT: true; the input reads as it did. -/
def schedFairSpec : ChangeSpec := { name := "schedFair", fn := fun _ => fun
  | [d1, d2, d3] => { results := [.lit (.bool true)], args := [d1, d2, d3] }
  | _ => none }
def schedFairRow : OpenClaim := { program := "ytoijeofchnmppaa", sum := "6f15c251e32de6ede7d6a58c4c1db10cf3d86e84cbc59a3e5e3d611e49ccbb81", func := "fustian/fustiankeep.SchedFair", spec := "schedFair", apart := false }
def SchedFairSaid : Prop := schedFairRow.holds Try.pinned (OpenSpec.ofChange schedFairSpec)

/-- ITS FALSE NEIGHBOUR: 'it returns false'. Refute it at one input. -/
def schedFairWrong : ChangeSpec := { name := "schedFair", fn := fun _ => fun
  | [d1, d2, d3] => { results := [.lit (.bool false)], args := [d1, d2, d3] }
  | _ => none }
def SchedFairWrongFalsely : Prop := schedFairRow.holds Try.pinned (OpenSpec.ofChange schedFairWrong)

/-- 'fustiankeep.SchedParts': WHATEVER THE INPUT: true; the input reads as it did. -/
def schedPartsSpec : ChangeSpec := { name := "schedParts", fn := fun _ => fun
  | [d1, d2] => { results := [.lit (.bool true)], args := [d1, d2] }
  | _ => none }
def schedPartsRow : OpenClaim := { program := "ytoijeofchnmppaa", sum := "6f15c251e32de6ede7d6a58c4c1db10cf3d86e84cbc59a3e5e3d611e49ccbb81", func := "fustian/fustiankeep.SchedParts", spec := "schedParts", apart := false }
def SchedPartsSaid : Prop := schedPartsRow.holds Try.pinned (OpenSpec.ofChange schedPartsSpec)

/-- ITS FALSE NEIGHBOUR: 'it returns false'. Refute it at one input. -/
def schedPartsWrong : ChangeSpec := { name := "schedParts", fn := fun _ => fun
  | [d1, d2] => { results := [.lit (.bool false)], args := [d1, d2] }
  | _ => none }
def SchedPartsWrongFalsely : Prop := schedPartsRow.holds Try.pinned (OpenSpec.ofChange schedPartsWrong)

/-- 'fustiankeep.DiffLeast': WHATEVER THE INPUT: true; the input reads as it did. -/
def diffLeastSpec : ChangeSpec := { name := "diffLeast", fn := fun _ => fun
  | [d1, d2, d3, d4] => { results := [.lit (.bool true)], args := [d1, d2, d3, d4] }
  | _ => none }
def diffLeastRow : OpenClaim := { program := "ytoijeofchnmppaa", sum := "6f15c251e32de6ede7d6a58c4c1db10cf3d86e84cbc59a3e5e3d611e49ccbb81", func := "fustian/fustiankeep.DiffLeast", spec := "diffLeast", unfollowed := true, recurses := true, apart := false }
def DiffLeastSaid : Prop := diffLeastRow.holds Try.pinned (OpenSpec.ofChange diffLeastSpec)

/-- ITS FALSE NEIGHBOUR: 'it returns false'. Refute it at one input. -/
def diffLeastWrong : ChangeSpec := { name := "diffLeast", fn := fun _ => fun
  | [d1, d2, d3, d4] => { results := [.lit (.bool false)], args := [d1, d2, d3, d4] }
  | _ => none }
def DiffLeastWrongFalsely : Prop := diffLeastRow.holds Try.pinned (OpenSpec.ofChange diffLeastWrong)

/-- 'fustiankeep.DiffMetric': WHATEVER THE INPUT: true; the input reads as it did. -/
def diffMetricSpec : ChangeSpec := { name := "diffMetric", fn := fun _ => fun
  | [d1, d2, d3, d4] => { results := [.lit (.bool true)], args := [d1, d2, d3, d4] }
  | _ => none }
def diffMetricRow : OpenClaim := { program := "ytoijeofchnmppaa", sum := "6f15c251e32de6ede7d6a58c4c1db10cf3d86e84cbc59a3e5e3d611e49ccbb81", func := "fustian/fustiankeep.DiffMetric", spec := "diffMetric", unfollowed := true, recurses := true, apart := false }
def DiffMetricSaid : Prop := diffMetricRow.holds Try.pinned (OpenSpec.ofChange diffMetricSpec)

/-- ITS FALSE NEIGHBOUR: 'it returns false'. Refute it at one input. -/
def diffMetricWrong : ChangeSpec := { name := "diffMetric", fn := fun _ => fun
  | [d1, d2, d3, d4] => { results := [.lit (.bool false)], args := [d1, d2, d3, d4] }
  | _ => none }
def DiffMetricWrongFalsely : Prop := diffMetricRow.holds Try.pinned (OpenSpec.ofChange diffMetricWrong)

/-- 'fustiankeep.DiffCommon': WHATEVER THE INPUT: true; the input reads as it did. -/
def diffCommonSpec : ChangeSpec := { name := "diffCommon", fn := fun _ => fun
  | [d1, d2, d3, d4, d5] => { results := [.lit (.bool true)], args := [d1, d2, d3, d4, d5] }
  | _ => none }
def diffCommonRow : OpenClaim := { program := "ytoijeofchnmppaa", sum := "6f15c251e32de6ede7d6a58c4c1db10cf3d86e84cbc59a3e5e3d611e49ccbb81", func := "fustian/fustiankeep.DiffCommon", spec := "diffCommon", unfollowed := true, recurses := true, apart := false }
def DiffCommonSaid : Prop := diffCommonRow.holds Try.pinned (OpenSpec.ofChange diffCommonSpec)

/-- ITS FALSE NEIGHBOUR: 'it returns false'. Refute it at one input. -/
def diffCommonWrong : ChangeSpec := { name := "diffCommon", fn := fun _ => fun
  | [d1, d2, d3, d4, d5] => { results := [.lit (.bool false)], args := [d1, d2, d3, d4, d5] }
  | _ => none }
def DiffCommonWrongFalsely : Prop := diffCommonRow.holds Try.pinned (OpenSpec.ofChange diffCommonWrong)

/-- 'fustiankeep.DiffBack': WHATEVER THE INPUT: true; the input reads as it did. -/
def diffBackSpec : ChangeSpec := { name := "diffBack", fn := fun _ => fun
  | [d1, d2, d3] => { results := [.lit (.bool true)], args := [d1, d2, d3] }
  | _ => none }
def diffBackRow : OpenClaim := { program := "ytoijeofchnmppaa", sum := "6f15c251e32de6ede7d6a58c4c1db10cf3d86e84cbc59a3e5e3d611e49ccbb81", func := "fustian/fustiankeep.DiffBack", spec := "diffBack", unfollowed := true, recurses := true, apart := false }
def DiffBackSaid : Prop := diffBackRow.holds Try.pinned (OpenSpec.ofChange diffBackSpec)

/-- ITS FALSE NEIGHBOUR: 'it returns false'. Refute it at one input. -/
def diffBackWrong : ChangeSpec := { name := "diffBack", fn := fun _ => fun
  | [d1, d2, d3] => { results := [.lit (.bool false)], args := [d1, d2, d3] }
  | _ => none }
def DiffBackWrongFalsely : Prop := diffBackRow.holds Try.pinned (OpenSpec.ofChange diffBackWrong)

/-- 'fustiankeep.MergeOne': WHATEVER THE INPUT: true; the input reads as it did. -/
def mergeOneSpec : ChangeSpec := { name := "mergeOne", fn := fun _ => fun
  | [d1, d2, d3] => { results := [.lit (.bool true)], args := [d1, d2, d3] }
  | _ => none }
def mergeOneRow : OpenClaim := { program := "ytoijeofchnmppaa", sum := "6f15c251e32de6ede7d6a58c4c1db10cf3d86e84cbc59a3e5e3d611e49ccbb81", func := "fustian/fustiankeep.MergeOne", spec := "mergeOne", unfollowed := true, recurses := true, apart := false }
def MergeOneSaid : Prop := mergeOneRow.holds Try.pinned (OpenSpec.ofChange mergeOneSpec)

/-- ITS FALSE NEIGHBOUR: 'it returns false'. Refute it at one input. -/
def mergeOneWrong : ChangeSpec := { name := "mergeOne", fn := fun _ => fun
  | [d1, d2, d3] => { results := [.lit (.bool false)], args := [d1, d2, d3] }
  | _ => none }
def MergeOneWrongFalsely : Prop := mergeOneRow.holds Try.pinned (OpenSpec.ofChange mergeOneWrong)

/-- 'fustiankeep.MergeTurned': WHATEVER THE INPUT: true; the input reads as it did. -/
def mergeTurnedSpec : ChangeSpec := { name := "mergeTurned", fn := fun _ => fun
  | [d1, d2, d3, d4] => { results := [.lit (.bool true)], args := [d1, d2, d3, d4] }
  | _ => none }
def mergeTurnedRow : OpenClaim := { program := "ytoijeofchnmppaa", sum := "6f15c251e32de6ede7d6a58c4c1db10cf3d86e84cbc59a3e5e3d611e49ccbb81", func := "fustian/fustiankeep.MergeTurned", spec := "mergeTurned", unfollowed := true, recurses := true, apart := false }
def MergeTurnedSaid : Prop := mergeTurnedRow.holds Try.pinned (OpenSpec.ofChange mergeTurnedSpec)

/-- ITS FALSE NEIGHBOUR: 'it returns false'. Refute it at one input. -/
def mergeTurnedWrong : ChangeSpec := { name := "mergeTurned", fn := fun _ => fun
  | [d1, d2, d3, d4] => { results := [.lit (.bool false)], args := [d1, d2, d3, d4] }
  | _ => none }
def MergeTurnedWrongFalsely : Prop := mergeTurnedRow.holds Try.pinned (OpenSpec.ofChange mergeTurnedWrong)

/-- 'fustiankeep.MergeFar': WHATEVER THE INPUT: true; the input reads as it did. -/
def mergeFarSpec : ChangeSpec := { name := "mergeFar", fn := fun _ => fun
  | [d1, d2, d3, d4] => { results := [.lit (.bool true)], args := [d1, d2, d3, d4] }
  | _ => none }
def mergeFarRow : OpenClaim := { program := "ytoijeofchnmppaa", sum := "6f15c251e32de6ede7d6a58c4c1db10cf3d86e84cbc59a3e5e3d611e49ccbb81", func := "fustian/fustiankeep.MergeFar", spec := "mergeFar", unfollowed := true, recurses := true, apart := false }
def MergeFarSaid : Prop := mergeFarRow.holds Try.pinned (OpenSpec.ofChange mergeFarSpec)

/-- ITS FALSE NEIGHBOUR: 'it returns false'. Refute it at one input. -/
def mergeFarWrong : ChangeSpec := { name := "mergeFar", fn := fun _ => fun
  | [d1, d2, d3, d4] => { results := [.lit (.bool false)], args := [d1, d2, d3, d4] }
  | _ => none }
def MergeFarWrongFalsely : Prop := mergeFarRow.holds Try.pinned (OpenSpec.ofChange mergeFarWrong)

/-- 'fustiankeep.LogBack': WHATEVER THE INPUT: true; the input reads as it did. -/
def logBackSpec : ChangeSpec := { name := "logBack", fn := fun _ => fun
  | [d1, d2, d3, d4] => { results := [.lit (.bool true)], args := [d1, d2, d3, d4] }
  | _ => none }
def logBackRow : OpenClaim := { program := "ytoijeofchnmppaa", sum := "6f15c251e32de6ede7d6a58c4c1db10cf3d86e84cbc59a3e5e3d611e49ccbb81", func := "fustian/fustiankeep.LogBack", spec := "logBack", apart := false }
def LogBackSaid : Prop := logBackRow.holds Try.pinned (OpenSpec.ofChange logBackSpec)

/-- ITS FALSE NEIGHBOUR: 'it returns false'. Refute it at one input. -/
def logBackWrong : ChangeSpec := { name := "logBack", fn := fun _ => fun
  | [d1, d2, d3, d4] => { results := [.lit (.bool false)], args := [d1, d2, d3, d4] }
  | _ => none }
def LogBackWrongFalsely : Prop := logBackRow.holds Try.pinned (OpenSpec.ofChange logBackWrong)

/-- 'fustiankeep.LogFixed': WHATEVER THE INPUT: true; the input reads as it did. -/
def logFixedSpec : ChangeSpec := { name := "logFixed", fn := fun _ => fun
  | [d] => { results := [.lit (.bool true)], args := [d] }
  | _ => none }
def logFixedRow : OpenClaim := { program := "ytoijeofchnmppaa", sum := "6f15c251e32de6ede7d6a58c4c1db10cf3d86e84cbc59a3e5e3d611e49ccbb81", func := "fustian/fustiankeep.LogFixed", spec := "logFixed", apart := false }
def LogFixedSaid : Prop := logFixedRow.holds Try.pinned (OpenSpec.ofChange logFixedSpec)

/-- ITS FALSE NEIGHBOUR: 'it returns false'. Refute it at one input. -/
def logFixedWrong : ChangeSpec := { name := "logFixed", fn := fun _ => fun
  | [d] => { results := [.lit (.bool false)], args := [d] }
  | _ => none }
def LogFixedWrongFalsely : Prop := logFixedRow.holds Try.pinned (OpenSpec.ofChange logFixedWrong)

/- THE SECOND FORM. 'bulk': how many values and letters a reading holds, each counted each time it is reached (what is shared counts as often as it is met; a slice's spare places count too). A statement '..UptoSaid' is the law's where the arguments, and the package variables that the reading takes, are together of bulk at most 1048576: NARROWER than '..Said'. Prove '..Said' where nothing that the law and all that it calls make is longer than what came in: it says more and counts as full. Else prove '..UptoSaid'. A law counts once. -/
mutual
def uptoBulk {H : Type} : DataW H → Nat
  | .lit (.string bytes) => bytes.length + 1
  | .lit _ => 1
  | .nil => 1
  | .ptr d => uptoBulk d + 1
  | .slice elems spare => uptoBulkAll elems + uptoBulkAll spare + 1
  | .agg parts => uptoBulkAll parts + 1
  | .iface _ d => uptoBulk d + 1
  | .map entries => uptoBulkEntries entries + 1
  | .held _ => 1
def uptoBulkAll {H : Type} : List (DataW H) → Nat
  | [] => 0
  | d :: r => uptoBulk d + uptoBulkAll r
def uptoBulkEntries {H : Type} : List (Lit × DataW H) → Nat
  | [] => 0
  | x :: r => uptoBulkEntry x + uptoBulkEntries r
def uptoBulkEntry {H : Type} : Lit × DataW H → Nat
  | (.string bytes, d) => bytes.length + uptoBulk d + 1
  | (_, d) => uptoBulk d + 1
 end
def uptoSmall : (H : Type) → List (DataW H) → Bool := fun _ ds => decide (uptoBulkAll ds ≤ 1048576)
def OpenSpec.upto (s : _root_.Go.ChangeSpec) : _root_.Go.OpenSpec := { _root_.Go.OpenSpec.ofChange s with cond := some uptoSmall }

/-- 'fustiankeep.SchedAll', WHERE WHAT IT READS IS OF BULK AT MOST 1048576: true; the input reads as it did. -/
def schedAllUptoRow : OpenClaim := { program := "ytoijeofchnmppaa", sum := "6f15c251e32de6ede7d6a58c4c1db10cf3d86e84cbc59a3e5e3d611e49ccbb81", func := "fustian/fustiankeep.SchedAll", spec := "schedAll", apart := false, narrowed := true }
def SchedAllUptoSaid : Prop := schedAllUptoRow.holds Try.pinned (OpenSpec.upto schedAllSpec)

/-- 'fustiankeep.SchedFair', WHERE WHAT IT READS IS OF BULK AT MOST 1048576: true; the input reads as it did. -/
def schedFairUptoRow : OpenClaim := { program := "ytoijeofchnmppaa", sum := "6f15c251e32de6ede7d6a58c4c1db10cf3d86e84cbc59a3e5e3d611e49ccbb81", func := "fustian/fustiankeep.SchedFair", spec := "schedFair", apart := false, narrowed := true }
def SchedFairUptoSaid : Prop := schedFairUptoRow.holds Try.pinned (OpenSpec.upto schedFairSpec)

/-- 'fustiankeep.SchedParts', WHERE WHAT IT READS IS OF BULK AT MOST 1048576: true; the input reads as it did. -/
def schedPartsUptoRow : OpenClaim := { program := "ytoijeofchnmppaa", sum := "6f15c251e32de6ede7d6a58c4c1db10cf3d86e84cbc59a3e5e3d611e49ccbb81", func := "fustian/fustiankeep.SchedParts", spec := "schedParts", apart := false, narrowed := true }
def SchedPartsUptoSaid : Prop := schedPartsUptoRow.holds Try.pinned (OpenSpec.upto schedPartsSpec)

/-- 'fustiankeep.DiffLeast', WHERE WHAT IT READS IS OF BULK AT MOST 1048576: true; the input reads as it did. -/
def diffLeastUptoRow : OpenClaim := { program := "ytoijeofchnmppaa", sum := "6f15c251e32de6ede7d6a58c4c1db10cf3d86e84cbc59a3e5e3d611e49ccbb81", func := "fustian/fustiankeep.DiffLeast", spec := "diffLeast", unfollowed := true, recurses := true, apart := false, narrowed := true }
def DiffLeastUptoSaid : Prop := diffLeastUptoRow.holds Try.pinned (OpenSpec.upto diffLeastSpec)

/-- 'fustiankeep.DiffMetric', WHERE WHAT IT READS IS OF BULK AT MOST 1048576: true; the input reads as it did. -/
def diffMetricUptoRow : OpenClaim := { program := "ytoijeofchnmppaa", sum := "6f15c251e32de6ede7d6a58c4c1db10cf3d86e84cbc59a3e5e3d611e49ccbb81", func := "fustian/fustiankeep.DiffMetric", spec := "diffMetric", unfollowed := true, recurses := true, apart := false, narrowed := true }
def DiffMetricUptoSaid : Prop := diffMetricUptoRow.holds Try.pinned (OpenSpec.upto diffMetricSpec)

/-- 'fustiankeep.DiffCommon', WHERE WHAT IT READS IS OF BULK AT MOST 1048576: true; the input reads as it did. -/
def diffCommonUptoRow : OpenClaim := { program := "ytoijeofchnmppaa", sum := "6f15c251e32de6ede7d6a58c4c1db10cf3d86e84cbc59a3e5e3d611e49ccbb81", func := "fustian/fustiankeep.DiffCommon", spec := "diffCommon", unfollowed := true, recurses := true, apart := false, narrowed := true }
def DiffCommonUptoSaid : Prop := diffCommonUptoRow.holds Try.pinned (OpenSpec.upto diffCommonSpec)

/-- 'fustiankeep.DiffBack', WHERE WHAT IT READS IS OF BULK AT MOST 1048576: true; the input reads as it did. -/
def diffBackUptoRow : OpenClaim := { program := "ytoijeofchnmppaa", sum := "6f15c251e32de6ede7d6a58c4c1db10cf3d86e84cbc59a3e5e3d611e49ccbb81", func := "fustian/fustiankeep.DiffBack", spec := "diffBack", unfollowed := true, recurses := true, apart := false, narrowed := true }
def DiffBackUptoSaid : Prop := diffBackUptoRow.holds Try.pinned (OpenSpec.upto diffBackSpec)

/-- 'fustiankeep.MergeOne', WHERE WHAT IT READS IS OF BULK AT MOST 1048576: true; the input reads as it did. -/
def mergeOneUptoRow : OpenClaim := { program := "ytoijeofchnmppaa", sum := "6f15c251e32de6ede7d6a58c4c1db10cf3d86e84cbc59a3e5e3d611e49ccbb81", func := "fustian/fustiankeep.MergeOne", spec := "mergeOne", unfollowed := true, recurses := true, apart := false, narrowed := true }
def MergeOneUptoSaid : Prop := mergeOneUptoRow.holds Try.pinned (OpenSpec.upto mergeOneSpec)

/-- 'fustiankeep.MergeTurned', WHERE WHAT IT READS IS OF BULK AT MOST 1048576: true; the input reads as it did. -/
def mergeTurnedUptoRow : OpenClaim := { program := "ytoijeofchnmppaa", sum := "6f15c251e32de6ede7d6a58c4c1db10cf3d86e84cbc59a3e5e3d611e49ccbb81", func := "fustian/fustiankeep.MergeTurned", spec := "mergeTurned", unfollowed := true, recurses := true, apart := false, narrowed := true }
def MergeTurnedUptoSaid : Prop := mergeTurnedUptoRow.holds Try.pinned (OpenSpec.upto mergeTurnedSpec)

/-- 'fustiankeep.MergeFar', WHERE WHAT IT READS IS OF BULK AT MOST 1048576: true; the input reads as it did. -/
def mergeFarUptoRow : OpenClaim := { program := "ytoijeofchnmppaa", sum := "6f15c251e32de6ede7d6a58c4c1db10cf3d86e84cbc59a3e5e3d611e49ccbb81", func := "fustian/fustiankeep.MergeFar", spec := "mergeFar", unfollowed := true, recurses := true, apart := false, narrowed := true }
def MergeFarUptoSaid : Prop := mergeFarUptoRow.holds Try.pinned (OpenSpec.upto mergeFarSpec)

/-- 'fustiankeep.LogBack', WHERE WHAT IT READS IS OF BULK AT MOST 1048576: true; the input reads as it did. -/
def logBackUptoRow : OpenClaim := { program := "ytoijeofchnmppaa", sum := "6f15c251e32de6ede7d6a58c4c1db10cf3d86e84cbc59a3e5e3d611e49ccbb81", func := "fustian/fustiankeep.LogBack", spec := "logBack", apart := false, narrowed := true }
def LogBackUptoSaid : Prop := logBackUptoRow.holds Try.pinned (OpenSpec.upto logBackSpec)

/-- 'fustiankeep.LogFixed', WHERE WHAT IT READS IS OF BULK AT MOST 1048576: true; the input reads as it did. -/
def logFixedUptoRow : OpenClaim := { program := "ytoijeofchnmppaa", sum := "6f15c251e32de6ede7d6a58c4c1db10cf3d86e84cbc59a3e5e3d611e49ccbb81", func := "fustian/fustiankeep.LogFixed", spec := "logFixed", apart := false, narrowed := true }
def LogFixedUptoSaid : Prop := logFixedUptoRow.holds Try.pinned (OpenSpec.upto logFixedSpec)

end Rows
end Go.Proofs.Ytoijeofchnmppaa
