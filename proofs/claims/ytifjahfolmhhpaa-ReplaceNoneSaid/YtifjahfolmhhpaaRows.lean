/-
  No cell of these rows narrows 'for every input' (looked for: loops, veiled, ifaces, maps, wideKeys, modest, calm, conditions, laid).
  DERIVED. THE GIVEN ROWS OF THIS SEAT. 12 by the template 'for every input the law returns true; each argument reads behind the call as it read before'; 0 by the template 'total and deterministic' (their statements: YtifjahfolmhhpaaTotals.lean).
  GIVEN WITH THE SEED: the statements are not yours to turn. If you find one false, say at which input.
  Laid BY PROGRAM, IN A SANDBOX (cutbox-rows.mjs): the forced cells as the released guide's own fill.sh prints them over the translation e4ae3172cf656e68… (all of the seat's roots in one cut). By AI agents, Wed Nov 11 2026. No macro, syntax, notation, axiom, sorry.
-/
import Derived.Test.YtifjahfolmhhpaaChecked
import GoSem.Claim
import GoSem.ClaimJoined
import GoSem.ClaimMapViews
import Derived.JoinedTies
import Derived.KernelRfl
namespace Go.Proofs.Ytifjahfolmhhpaa
/- THE CELL 'sum', in the pinned program and in every row, IS THE sha256 OF THE DUMP (.gsa) THAT YtifjahfolmhhpaaProg.lean LOADS. Nothing in Lean hashes anything: it is a label: what it is worth is what the hold of that sum in a sandbox is worth. -/
noncomputable def Try.pinned : Pinned := { name := "ytifjahfolmhhpaa", sum := "e4ae3172cf656e68df317a2c2f9c797b4aae29b7ebded2aae42d0974a9c12381", checked := Try.checked }
namespace Rows
def none {H : Type} : Left H := { results := [], args := [] }

/-- 'fustiankeep.SchedAll': WHATEVER THE INPUT: true; the input reads as it did. -/
def schedAllSpec : ChangeSpec := { name := "schedAll", fn := fun _ => fun
  | [d] => { results := [.lit (.bool true)], args := [d] }
  | _ => none }
def schedAllRow : OpenClaim := { program := "ytifjahfolmhhpaa", sum := "e4ae3172cf656e68df317a2c2f9c797b4aae29b7ebded2aae42d0974a9c12381", func := "fustian/fustiankeep.SchedAll", spec := "schedAll", apart := false }
def SchedAllSaid : Prop := schedAllRow.holds Try.pinned (OpenSpec.ofChange schedAllSpec)

/-- ITS FALSE NEIGHBOUR: 'it returns false'. Refute it at one input. -/
def schedAllWrong : ChangeSpec := { name := "schedAll", fn := fun _ => fun
  | [d] => { results := [.lit (.bool false)], args := [d] }
  | _ => none }
def SchedAllWrongFalsely : Prop := schedAllRow.holds Try.pinned (OpenSpec.ofChange schedAllWrong)

/-- 'fustiankeep.SchedFair': WHATEVER THE INPUT: true; the input reads as it did. -/
def schedFairSpec : ChangeSpec := { name := "schedFair", fn := fun _ => fun
  | [d1, d2, d3] => { results := [.lit (.bool true)], args := [d1, d2, d3] }
  | _ => none }
def schedFairRow : OpenClaim := { program := "ytifjahfolmhhpaa", sum := "e4ae3172cf656e68df317a2c2f9c797b4aae29b7ebded2aae42d0974a9c12381", func := "fustian/fustiankeep.SchedFair", spec := "schedFair", apart := false }
def SchedFairSaid : Prop := schedFairRow.holds Try.pinned (OpenSpec.ofChange schedFairSpec)

/-- ITS FALSE NEIGHBOUR: 'it returns false'. Refute it at one input. -/
def schedFairWrong : ChangeSpec := { name := "schedFair", fn := fun _ => fun
  | [d1, d2, d3] => { results := [.lit (.bool false)], args := [d1, d2, d3] }
  | _ => none }
def SchedFairWrongFalsely : Prop := schedFairRow.holds Try.pinned (OpenSpec.ofChange schedFairWrong)

/-- 'fustiankeep.SchedParts': WHATEVER THE INPUT: true; the input reads as it did. -/
def schedPartsSpec : ChangeSpec := { name := "schedParts", fn := fun _ => fun
  | [d1, d2] => { results := [.lit (.bool true)], args := [d1, d2] }
  | _ => none }
def schedPartsRow : OpenClaim := { program := "ytifjahfolmhhpaa", sum := "e4ae3172cf656e68df317a2c2f9c797b4aae29b7ebded2aae42d0974a9c12381", func := "fustian/fustiankeep.SchedParts", spec := "schedParts", apart := false }
def SchedPartsSaid : Prop := schedPartsRow.holds Try.pinned (OpenSpec.ofChange schedPartsSpec)

/-- ITS FALSE NEIGHBOUR: 'it returns false'. Refute it at one input. -/
def schedPartsWrong : ChangeSpec := { name := "schedParts", fn := fun _ => fun
  | [d1, d2] => { results := [.lit (.bool false)], args := [d1, d2] }
  | _ => none }
def SchedPartsWrongFalsely : Prop := schedPartsRow.holds Try.pinned (OpenSpec.ofChange schedPartsWrong)

/-- 'fustiankeep.DiffBack': WHATEVER THE INPUT: true; the input reads as it did. -/
def diffBackSpec : ChangeSpec := { name := "diffBack", fn := fun _ => fun
  | [d1, d2, d3] => { results := [.lit (.bool true)], args := [d1, d2, d3] }
  | _ => none }
def diffBackRow : OpenClaim := { program := "ytifjahfolmhhpaa", sum := "e4ae3172cf656e68df317a2c2f9c797b4aae29b7ebded2aae42d0974a9c12381", func := "fustian/fustiankeep.DiffBack", spec := "diffBack", unfollowed := true, recurses := true, apart := false }
def DiffBackSaid : Prop := diffBackRow.holds Try.pinned (OpenSpec.ofChange diffBackSpec)

/-- ITS FALSE NEIGHBOUR: 'it returns false'. Refute it at one input. -/
def diffBackWrong : ChangeSpec := { name := "diffBack", fn := fun _ => fun
  | [d1, d2, d3] => { results := [.lit (.bool false)], args := [d1, d2, d3] }
  | _ => none }
def DiffBackWrongFalsely : Prop := diffBackRow.holds Try.pinned (OpenSpec.ofChange diffBackWrong)

/-- 'fustiankeep.FindJust': WHATEVER THE INPUT: true; the input reads as it did. -/
def findJustSpec : ChangeSpec := { name := "findJust", fn := fun _ => fun
  | [d1, d2, d3] => { results := [.lit (.bool true)], args := [d1, d2, d3] }
  | _ => none }
def findJustRow : OpenClaim := { program := "ytifjahfolmhhpaa", sum := "e4ae3172cf656e68df317a2c2f9c797b4aae29b7ebded2aae42d0974a9c12381", func := "fustian/fustiankeep.FindJust", spec := "findJust", apart := false }
def FindJustSaid : Prop := findJustRow.holds Try.pinned (OpenSpec.ofChange findJustSpec)

/-- ITS FALSE NEIGHBOUR: 'it returns false'. Refute it at one input. -/
def findJustWrong : ChangeSpec := { name := "findJust", fn := fun _ => fun
  | [d1, d2, d3] => { results := [.lit (.bool false)], args := [d1, d2, d3] }
  | _ => none }
def FindJustWrongFalsely : Prop := findJustRow.holds Try.pinned (OpenSpec.ofChange findJustWrong)

/-- 'fustiankeep.BorderPeriod': WHATEVER THE INPUT: true; the input reads as it did. -/
def borderPeriodSpec : ChangeSpec := { name := "borderPeriod", fn := fun _ => fun
  | [d] => { results := [.lit (.bool true)], args := [d] }
  | _ => none }
def borderPeriodRow : OpenClaim := { program := "ytifjahfolmhhpaa", sum := "e4ae3172cf656e68df317a2c2f9c797b4aae29b7ebded2aae42d0974a9c12381", func := "fustian/fustiankeep.BorderPeriod", spec := "borderPeriod", apart := false }
def BorderPeriodSaid : Prop := borderPeriodRow.holds Try.pinned (OpenSpec.ofChange borderPeriodSpec)

/-- ITS FALSE NEIGHBOUR: 'it returns false'. Refute it at one input. -/
def borderPeriodWrong : ChangeSpec := { name := "borderPeriod", fn := fun _ => fun
  | [d] => { results := [.lit (.bool false)], args := [d] }
  | _ => none }
def BorderPeriodWrongFalsely : Prop := borderPeriodRow.holds Try.pinned (OpenSpec.ofChange borderPeriodWrong)

/-- 'fustiankeep.LogBack': WHATEVER THE INPUT: true; the input reads as it did. -/
def logBackSpec : ChangeSpec := { name := "logBack", fn := fun _ => fun
  | [d1, d2, d3, d4] => { results := [.lit (.bool true)], args := [d1, d2, d3, d4] }
  | _ => none }
def logBackRow : OpenClaim := { program := "ytifjahfolmhhpaa", sum := "e4ae3172cf656e68df317a2c2f9c797b4aae29b7ebded2aae42d0974a9c12381", func := "fustian/fustiankeep.LogBack", spec := "logBack", apart := false }
def LogBackSaid : Prop := logBackRow.holds Try.pinned (OpenSpec.ofChange logBackSpec)

/-- ITS FALSE NEIGHBOUR: 'it returns false'. Refute it at one input. -/
def logBackWrong : ChangeSpec := { name := "logBack", fn := fun _ => fun
  | [d1, d2, d3, d4] => { results := [.lit (.bool false)], args := [d1, d2, d3, d4] }
  | _ => none }
def LogBackWrongFalsely : Prop := logBackRow.holds Try.pinned (OpenSpec.ofChange logBackWrong)

/-- 'fustiankeep.LogFixed': WHATEVER THE INPUT: true; the input reads as it did. -/
def logFixedSpec : ChangeSpec := { name := "logFixed", fn := fun _ => fun
  | [d] => { results := [.lit (.bool true)], args := [d] }
  | _ => none }
def logFixedRow : OpenClaim := { program := "ytifjahfolmhhpaa", sum := "e4ae3172cf656e68df317a2c2f9c797b4aae29b7ebded2aae42d0974a9c12381", func := "fustian/fustiankeep.LogFixed", spec := "logFixed", apart := false }
def LogFixedSaid : Prop := logFixedRow.holds Try.pinned (OpenSpec.ofChange logFixedSpec)

/-- ITS FALSE NEIGHBOUR: 'it returns false'. Refute it at one input. -/
def logFixedWrong : ChangeSpec := { name := "logFixed", fn := fun _ => fun
  | [d] => { results := [.lit (.bool false)], args := [d] }
  | _ => none }
def LogFixedWrongFalsely : Prop := logFixedRow.holds Try.pinned (OpenSpec.ofChange logFixedWrong)

/-- 'fustiankeep.ReplaceBack': WHATEVER THE INPUT: true; the input reads as it did. -/
def replaceBackSpec : ChangeSpec := { name := "replaceBack", fn := fun _ => fun
  | [d1, d2] => { results := [.lit (.bool true)], args := [d1, d2] }
  | _ => none }
def replaceBackRow : OpenClaim := { program := "ytifjahfolmhhpaa", sum := "e4ae3172cf656e68df317a2c2f9c797b4aae29b7ebded2aae42d0974a9c12381", func := "fustian/fustiankeep.ReplaceBack", spec := "replaceBack", inPlace := ["internal/abi.NoEscape"], apart := false }
def ReplaceBackSaid : Prop := replaceBackRow.holds Try.pinned (OpenSpec.ofChange replaceBackSpec)

/-- ITS FALSE NEIGHBOUR: 'it returns false'. Refute it at one input. -/
def replaceBackWrong : ChangeSpec := { name := "replaceBack", fn := fun _ => fun
  | [d1, d2] => { results := [.lit (.bool false)], args := [d1, d2] }
  | _ => none }
def ReplaceBackWrongFalsely : Prop := replaceBackRow.holds Try.pinned (OpenSpec.ofChange replaceBackWrong)

/-- 'fustiankeep.ReplaceNone': WHATEVER THE INPUT: true; the input reads as it did. -/
def replaceNoneSpec : ChangeSpec := { name := "replaceNone", fn := fun _ => fun
  | [d1, d2] => { results := [.lit (.bool true)], args := [d1, d2] }
  | _ => none }
def replaceNoneRow : OpenClaim := { program := "ytifjahfolmhhpaa", sum := "e4ae3172cf656e68df317a2c2f9c797b4aae29b7ebded2aae42d0974a9c12381", func := "fustian/fustiankeep.ReplaceNone", spec := "replaceNone", inPlace := ["internal/abi.NoEscape"], apart := false }
def ReplaceNoneSaid : Prop := replaceNoneRow.holds Try.pinned (OpenSpec.ofChange replaceNoneSpec)

/-- ITS FALSE NEIGHBOUR: 'it returns false'. Refute it at one input. -/
def replaceNoneWrong : ChangeSpec := { name := "replaceNone", fn := fun _ => fun
  | [d1, d2] => { results := [.lit (.bool false)], args := [d1, d2] }
  | _ => none }
def ReplaceNoneWrongFalsely : Prop := replaceNoneRow.holds Try.pinned (OpenSpec.ofChange replaceNoneWrong)

/-- 'fustiankeep.WrapFewest': WHATEVER THE INPUT: true; the input reads as it did. -/
def wrapFewestSpec : ChangeSpec := { name := "wrapFewest", fn := fun _ => fun
  | [d1, d2, d3] => { results := [.lit (.bool true)], args := [d1, d2, d3] }
  | _ => none }
def wrapFewestRow : OpenClaim := { program := "ytifjahfolmhhpaa", sum := "e4ae3172cf656e68df317a2c2f9c797b4aae29b7ebded2aae42d0974a9c12381", func := "fustian/fustiankeep.WrapFewest", spec := "wrapFewest", unfollowed := true, recurses := true, apart := false }
def WrapFewestSaid : Prop := wrapFewestRow.holds Try.pinned (OpenSpec.ofChange wrapFewestSpec)

/-- ITS FALSE NEIGHBOUR: 'it returns false'. Refute it at one input. -/
def wrapFewestWrong : ChangeSpec := { name := "wrapFewest", fn := fun _ => fun
  | [d1, d2, d3] => { results := [.lit (.bool false)], args := [d1, d2, d3] }
  | _ => none }
def WrapFewestWrongFalsely : Prop := wrapFewestRow.holds Try.pinned (OpenSpec.ofChange wrapFewestWrong)

/-- 'fustiankeep.WrapWider': WHATEVER THE INPUT: true; the input reads as it did. -/
def wrapWiderSpec : ChangeSpec := { name := "wrapWider", fn := fun _ => fun
  | [d1, d2] => { results := [.lit (.bool true)], args := [d1, d2] }
  | _ => none }
def wrapWiderRow : OpenClaim := { program := "ytifjahfolmhhpaa", sum := "e4ae3172cf656e68df317a2c2f9c797b4aae29b7ebded2aae42d0974a9c12381", func := "fustian/fustiankeep.WrapWider", spec := "wrapWider", unfollowed := true, recurses := true, apart := false }
def WrapWiderSaid : Prop := wrapWiderRow.holds Try.pinned (OpenSpec.ofChange wrapWiderSpec)

/-- ITS FALSE NEIGHBOUR: 'it returns false'. Refute it at one input. -/
def wrapWiderWrong : ChangeSpec := { name := "wrapWider", fn := fun _ => fun
  | [d1, d2] => { results := [.lit (.bool false)], args := [d1, d2] }
  | _ => none }
def WrapWiderWrongFalsely : Prop := wrapWiderRow.holds Try.pinned (OpenSpec.ofChange wrapWiderWrong)

/- THE SECOND FORM. 'bulk': how many values and letters a reading holds, each counted each time it is reached (what is shared counts as often as it is met; a slice's spare places count too). A statement '..UptoSaid' is the law's where the arguments, and the package variables that the reading takes, are together of bulk at most 1048576: NARROWER than '..Said'. Prove '..Said' where nothing that the law and all that it calls make is longer than what came in: it says more and counts as full. Else prove '..UptoSaid'. A law counts once. -/
mutual
def uptoBulk {H : Type} : DataW H → Nat
  | .lit (.string bytes) => bytes.length + 1
  | .lit _ => 1
  | .nil => 1
  | .ptr d => uptoBulk d + 1
  | .slice elems spare => uptoBulkAll elems + uptoBulkAll spare + 1
  | .agg parts => uptoBulkAll parts + 1
  | .iface _ d => uptoBulk d + 1
  | .map entries => uptoBulkEntries entries + 1
  | .held _ => 1
def uptoBulkAll {H : Type} : List (DataW H) → Nat
  | [] => 0
  | d :: r => uptoBulk d + uptoBulkAll r
def uptoBulkEntries {H : Type} : List (Lit × DataW H) → Nat
  | [] => 0
  | x :: r => uptoBulkEntry x + uptoBulkEntries r
def uptoBulkEntry {H : Type} : Lit × DataW H → Nat
  | (.string bytes, d) => bytes.length + uptoBulk d + 1
  | (_, d) => uptoBulk d + 1
 end
def uptoSmall : (H : Type) → List (DataW H) → Bool := fun _ ds => decide (uptoBulkAll ds ≤ 1048576)
def OpenSpec.upto (s : _root_.Go.ChangeSpec) : _root_.Go.OpenSpec := { _root_.Go.OpenSpec.ofChange s with cond := some uptoSmall }

/-- 'fustiankeep.SchedAll', WHERE WHAT IT READS IS OF BULK AT MOST 1048576: true; the input reads as it did. -/
def schedAllUptoRow : OpenClaim := { program := "ytifjahfolmhhpaa", sum := "e4ae3172cf656e68df317a2c2f9c797b4aae29b7ebded2aae42d0974a9c12381", func := "fustian/fustiankeep.SchedAll", spec := "schedAll", apart := false, narrowed := true }
def SchedAllUptoSaid : Prop := schedAllUptoRow.holds Try.pinned (OpenSpec.upto schedAllSpec)

/-- 'fustiankeep.SchedFair', WHERE WHAT IT READS IS OF BULK AT MOST 1048576: true; the input reads as it did. -/
def schedFairUptoRow : OpenClaim := { program := "ytifjahfolmhhpaa", sum := "e4ae3172cf656e68df317a2c2f9c797b4aae29b7ebded2aae42d0974a9c12381", func := "fustian/fustiankeep.SchedFair", spec := "schedFair", apart := false, narrowed := true }
def SchedFairUptoSaid : Prop := schedFairUptoRow.holds Try.pinned (OpenSpec.upto schedFairSpec)

/-- 'fustiankeep.SchedParts', WHERE WHAT IT READS IS OF BULK AT MOST 1048576: true; the input reads as it did. -/
def schedPartsUptoRow : OpenClaim := { program := "ytifjahfolmhhpaa", sum := "e4ae3172cf656e68df317a2c2f9c797b4aae29b7ebded2aae42d0974a9c12381", func := "fustian/fustiankeep.SchedParts", spec := "schedParts", apart := false, narrowed := true }
def SchedPartsUptoSaid : Prop := schedPartsUptoRow.holds Try.pinned (OpenSpec.upto schedPartsSpec)

/-- 'fustiankeep.DiffBack', WHERE WHAT IT READS IS OF BULK AT MOST 1048576: true; the input reads as it did. -/
def diffBackUptoRow : OpenClaim := { program := "ytifjahfolmhhpaa", sum := "e4ae3172cf656e68df317a2c2f9c797b4aae29b7ebded2aae42d0974a9c12381", func := "fustian/fustiankeep.DiffBack", spec := "diffBack", unfollowed := true, recurses := true, apart := false, narrowed := true }
def DiffBackUptoSaid : Prop := diffBackUptoRow.holds Try.pinned (OpenSpec.upto diffBackSpec)

/-- 'fustiankeep.FindJust', WHERE WHAT IT READS IS OF BULK AT MOST 1048576: true; the input reads as it did. -/
def findJustUptoRow : OpenClaim := { program := "ytifjahfolmhhpaa", sum := "e4ae3172cf656e68df317a2c2f9c797b4aae29b7ebded2aae42d0974a9c12381", func := "fustian/fustiankeep.FindJust", spec := "findJust", apart := false, narrowed := true }
def FindJustUptoSaid : Prop := findJustUptoRow.holds Try.pinned (OpenSpec.upto findJustSpec)

/-- 'fustiankeep.BorderPeriod', WHERE WHAT IT READS IS OF BULK AT MOST 1048576: true; the input reads as it did. -/
def borderPeriodUptoRow : OpenClaim := { program := "ytifjahfolmhhpaa", sum := "e4ae3172cf656e68df317a2c2f9c797b4aae29b7ebded2aae42d0974a9c12381", func := "fustian/fustiankeep.BorderPeriod", spec := "borderPeriod", apart := false, narrowed := true }
def BorderPeriodUptoSaid : Prop := borderPeriodUptoRow.holds Try.pinned (OpenSpec.upto borderPeriodSpec)

/-- 'fustiankeep.LogBack', WHERE WHAT IT READS IS OF BULK AT MOST 1048576: true; the input reads as it did. -/
def logBackUptoRow : OpenClaim := { program := "ytifjahfolmhhpaa", sum := "e4ae3172cf656e68df317a2c2f9c797b4aae29b7ebded2aae42d0974a9c12381", func := "fustian/fustiankeep.LogBack", spec := "logBack", apart := false, narrowed := true }
def LogBackUptoSaid : Prop := logBackUptoRow.holds Try.pinned (OpenSpec.upto logBackSpec)

/-- 'fustiankeep.LogFixed', WHERE WHAT IT READS IS OF BULK AT MOST 1048576: true; the input reads as it did. -/
def logFixedUptoRow : OpenClaim := { program := "ytifjahfolmhhpaa", sum := "e4ae3172cf656e68df317a2c2f9c797b4aae29b7ebded2aae42d0974a9c12381", func := "fustian/fustiankeep.LogFixed", spec := "logFixed", apart := false, narrowed := true }
def LogFixedUptoSaid : Prop := logFixedUptoRow.holds Try.pinned (OpenSpec.upto logFixedSpec)

/-- 'fustiankeep.ReplaceBack', WHERE WHAT IT READS IS OF BULK AT MOST 1048576: true; the input reads as it did. -/
def replaceBackUptoRow : OpenClaim := { program := "ytifjahfolmhhpaa", sum := "e4ae3172cf656e68df317a2c2f9c797b4aae29b7ebded2aae42d0974a9c12381", func := "fustian/fustiankeep.ReplaceBack", spec := "replaceBack", inPlace := ["internal/abi.NoEscape"], apart := false, narrowed := true }
def ReplaceBackUptoSaid : Prop := replaceBackUptoRow.holds Try.pinned (OpenSpec.upto replaceBackSpec)

/-- 'fustiankeep.ReplaceNone', WHERE WHAT IT READS IS OF BULK AT MOST 1048576: true; the input reads as it did. -/
def replaceNoneUptoRow : OpenClaim := { program := "ytifjahfolmhhpaa", sum := "e4ae3172cf656e68df317a2c2f9c797b4aae29b7ebded2aae42d0974a9c12381", func := "fustian/fustiankeep.ReplaceNone", spec := "replaceNone", inPlace := ["internal/abi.NoEscape"], apart := false, narrowed := true }
def ReplaceNoneUptoSaid : Prop := replaceNoneUptoRow.holds Try.pinned (OpenSpec.upto replaceNoneSpec)

/-- 'fustiankeep.WrapFewest', WHERE WHAT IT READS IS OF BULK AT MOST 1048576: true; the input reads as it did. -/
def wrapFewestUptoRow : OpenClaim := { program := "ytifjahfolmhhpaa", sum := "e4ae3172cf656e68df317a2c2f9c797b4aae29b7ebded2aae42d0974a9c12381", func := "fustian/fustiankeep.WrapFewest", spec := "wrapFewest", unfollowed := true, recurses := true, apart := false, narrowed := true }
def WrapFewestUptoSaid : Prop := wrapFewestUptoRow.holds Try.pinned (OpenSpec.upto wrapFewestSpec)

/-- 'fustiankeep.WrapWider', WHERE WHAT IT READS IS OF BULK AT MOST 1048576: true; the input reads as it did. -/
def wrapWiderUptoRow : OpenClaim := { program := "ytifjahfolmhhpaa", sum := "e4ae3172cf656e68df317a2c2f9c797b4aae29b7ebded2aae42d0974a9c12381", func := "fustian/fustiankeep.WrapWider", spec := "wrapWider", unfollowed := true, recurses := true, apart := false, narrowed := true }
def WrapWiderUptoSaid : Prop := wrapWiderUptoRow.holds Try.pinned (OpenSpec.upto wrapWiderSpec)

end Rows
end Go.Proofs.Ytifjahfolmhhpaa
