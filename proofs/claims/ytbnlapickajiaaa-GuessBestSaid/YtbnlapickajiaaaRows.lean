/-
  No cell of these rows narrows 'for every input' (looked for: loops, veiled, ifaces, maps, wideKeys, modest, calm, conditions, laid).
  DERIVED. THE GIVEN ROWS OF THIS SEAT. 5 by the template 'for every input the law returns true; each argument reads behind the call as it read before'; 0 by the template 'total and deterministic' (their statements: YtbnlapickajiaaaTotals.lean).
  GIVEN WITH THE SEED: the statements are not yours to turn. If you find one false, say at which input.
  Laid BY PROGRAM, IN A SANDBOX (cutbox-rows.mjs): the forced cells as the released guide's own fill.sh prints them over the translation b0455aa30c04445b… (all of the seat's roots in one cut). By AI agents, Wed Nov 11 2026. No macro, syntax, notation, axiom, sorry.
-/
import Derived.Test.YtbnlapickajiaaaChecked
import GoSem.Claim
import GoSem.ClaimJoined
import GoSem.ClaimMapViews
import Derived.JoinedTies
import Derived.KernelRfl
namespace Go.Proofs.Ytbnlapickajiaaa
/- THE CELL 'sum', in the pinned program and in every row, IS THE sha256 OF THE DUMP (.gsa) THAT YtbnlapickajiaaaProg.lean LOADS. Nothing in Lean hashes anything: it is a label: what it is worth is what the hold of that sum in a sandbox is worth. -/
noncomputable def Try.pinned : Pinned := { name := "ytbnlapickajiaaa", sum := "b0455aa30c04445b9772147ba679d0e92830e63824c94d5b41190913a3a79b36", checked := Try.checked }
namespace Rows
def none {H : Type} : Left H := { results := [], args := [] }

/-- 'fustiankeep.GuessBest': WHATEVER THE INPUT: true; the input reads as it did. -/
def guessBestSpec : ChangeSpec := { name := "guessBest", fn := fun _ => fun
  | [d1, d2, d3] => { results := [.lit (.bool true)], args := [d1, d2, d3] }
  | _ => none }
def guessBestRow : OpenClaim := { program := "ytbnlapickajiaaa", sum := "b0455aa30c04445b9772147ba679d0e92830e63824c94d5b41190913a3a79b36", func := "fustian/fustiankeep.GuessBest", spec := "guessBest", unfollowed := true, recurses := true, apart := false }
def GuessBestSaid : Prop := guessBestRow.holds Try.pinned (OpenSpec.ofChange guessBestSpec)

/-- ITS FALSE NEIGHBOUR: 'it returns false'. Refute it at one input. -/
def guessBestWrong : ChangeSpec := { name := "guessBest", fn := fun _ => fun
  | [d1, d2, d3] => { results := [.lit (.bool false)], args := [d1, d2, d3] }
  | _ => none }
def GuessBestWrongFalsely : Prop := guessBestRow.holds Try.pinned (OpenSpec.ofChange guessBestWrong)

/-- 'fustiankeep.SuffixOrder': WHATEVER THE INPUT: true; the input reads as it did. -/
def suffixOrderSpec : ChangeSpec := { name := "suffixOrder", fn := fun _ => fun
  | [d] => { results := [.lit (.bool true)], args := [d] }
  | _ => none }
def suffixOrderRow : OpenClaim := { program := "ytbnlapickajiaaa", sum := "b0455aa30c04445b9772147ba679d0e92830e63824c94d5b41190913a3a79b36", func := "fustian/fustiankeep.SuffixOrder", spec := "suffixOrder", unfollowed := true, recurses := true, apart := false }
def SuffixOrderSaid : Prop := suffixOrderRow.holds Try.pinned (OpenSpec.ofChange suffixOrderSpec)

/-- ITS FALSE NEIGHBOUR: 'it returns false'. Refute it at one input. -/
def suffixOrderWrong : ChangeSpec := { name := "suffixOrder", fn := fun _ => fun
  | [d] => { results := [.lit (.bool false)], args := [d] }
  | _ => none }
def SuffixOrderWrongFalsely : Prop := suffixOrderRow.holds Try.pinned (OpenSpec.ofChange suffixOrderWrong)

/-- 'fustiankeep.SuffixHalf': WHATEVER THE INPUT: true; the input reads as it did. -/
def suffixHalfSpec : ChangeSpec := { name := "suffixHalf", fn := fun _ => fun
  | [d1, d2] => { results := [.lit (.bool true)], args := [d1, d2] }
  | _ => none }
def suffixHalfRow : OpenClaim := { program := "ytbnlapickajiaaa", sum := "b0455aa30c04445b9772147ba679d0e92830e63824c94d5b41190913a3a79b36", func := "fustian/fustiankeep.SuffixHalf", spec := "suffixHalf", unfollowed := true, recurses := true, apart := false }
def SuffixHalfSaid : Prop := suffixHalfRow.holds Try.pinned (OpenSpec.ofChange suffixHalfSpec)

/-- ITS FALSE NEIGHBOUR: 'it returns false'. Refute it at one input. -/
def suffixHalfWrong : ChangeSpec := { name := "suffixHalf", fn := fun _ => fun
  | [d1, d2] => { results := [.lit (.bool false)], args := [d1, d2] }
  | _ => none }
def SuffixHalfWrongFalsely : Prop := suffixHalfRow.holds Try.pinned (OpenSpec.ofChange suffixHalfWrong)

/-- 'fustiankeep.SuffixCounts': WHATEVER THE INPUT: true; the input reads as it did. -/
def suffixCountsSpec : ChangeSpec := { name := "suffixCounts", fn := fun _ => fun
  | [d1, d2] => { results := [.lit (.bool true)], args := [d1, d2] }
  | _ => none }
def suffixCountsRow : OpenClaim := { program := "ytbnlapickajiaaa", sum := "b0455aa30c04445b9772147ba679d0e92830e63824c94d5b41190913a3a79b36", func := "fustian/fustiankeep.SuffixCounts", spec := "suffixCounts", unfollowed := true, recurses := true, apart := false }
def SuffixCountsSaid : Prop := suffixCountsRow.holds Try.pinned (OpenSpec.ofChange suffixCountsSpec)

/-- ITS FALSE NEIGHBOUR: 'it returns false'. Refute it at one input. -/
def suffixCountsWrong : ChangeSpec := { name := "suffixCounts", fn := fun _ => fun
  | [d1, d2] => { results := [.lit (.bool false)], args := [d1, d2] }
  | _ => none }
def SuffixCountsWrongFalsely : Prop := suffixCountsRow.holds Try.pinned (OpenSpec.ofChange suffixCountsWrong)

/-- 'fustiankeep.SuffixAgain': WHATEVER THE INPUT: true; the input reads as it did. -/
def suffixAgainSpec : ChangeSpec := { name := "suffixAgain", fn := fun _ => fun
  | [d] => { results := [.lit (.bool true)], args := [d] }
  | _ => none }
def suffixAgainRow : OpenClaim := { program := "ytbnlapickajiaaa", sum := "b0455aa30c04445b9772147ba679d0e92830e63824c94d5b41190913a3a79b36", func := "fustian/fustiankeep.SuffixAgain", spec := "suffixAgain", unfollowed := true, recurses := true, apart := false }
def SuffixAgainSaid : Prop := suffixAgainRow.holds Try.pinned (OpenSpec.ofChange suffixAgainSpec)

/-- ITS FALSE NEIGHBOUR: 'it returns false'. Refute it at one input. -/
def suffixAgainWrong : ChangeSpec := { name := "suffixAgain", fn := fun _ => fun
  | [d] => { results := [.lit (.bool false)], args := [d] }
  | _ => none }
def SuffixAgainWrongFalsely : Prop := suffixAgainRow.holds Try.pinned (OpenSpec.ofChange suffixAgainWrong)

/- THE SECOND FORM. 'bulk': how many values and letters a reading holds, each counted each time it is reached (what is shared counts as often as it is met; a slice's spare places count too). A statement '..UptoSaid' is the law's where the arguments, and the package variables that the reading takes, are together of bulk at most 1048576: NARROWER than '..Said'. Prove '..Said' where nothing that the law and all that it calls make is longer than what came in: it says more and counts as full. Else prove '..UptoSaid'. A law counts once. -/
mutual
def uptoBulk {H : Type} : DataW H → Nat
  | .lit (.string bytes) => bytes.length + 1
  | .lit _ => 1
  | .nil => 1
  | .ptr d => uptoBulk d + 1
  | .slice elems spare => uptoBulkAll elems + uptoBulkAll spare + 1
  | .agg parts => uptoBulkAll parts + 1
  | .iface _ d => uptoBulk d + 1
  | .map entries => uptoBulkEntries entries + 1
  | .held _ => 1
def uptoBulkAll {H : Type} : List (DataW H) → Nat
  | [] => 0
  | d :: r => uptoBulk d + uptoBulkAll r
def uptoBulkEntries {H : Type} : List (Lit × DataW H) → Nat
  | [] => 0
  | x :: r => uptoBulkEntry x + uptoBulkEntries r
def uptoBulkEntry {H : Type} : Lit × DataW H → Nat
  | (.string bytes, d) => bytes.length + uptoBulk d + 1
  | (_, d) => uptoBulk d + 1
 end
def uptoSmall : (H : Type) → List (DataW H) → Bool := fun _ ds => decide (uptoBulkAll ds ≤ 1048576)
def OpenSpec.upto (s : _root_.Go.ChangeSpec) : _root_.Go.OpenSpec := { _root_.Go.OpenSpec.ofChange s with cond := some uptoSmall }

/-- 'fustiankeep.GuessBest', WHERE WHAT IT READS IS OF BULK AT MOST 1048576: true; the input reads as it did. -/
def guessBestUptoRow : OpenClaim := { program := "ytbnlapickajiaaa", sum := "b0455aa30c04445b9772147ba679d0e92830e63824c94d5b41190913a3a79b36", func := "fustian/fustiankeep.GuessBest", spec := "guessBest", unfollowed := true, recurses := true, apart := false, narrowed := true }
def GuessBestUptoSaid : Prop := guessBestUptoRow.holds Try.pinned (OpenSpec.upto guessBestSpec)

/-- 'fustiankeep.SuffixOrder', WHERE WHAT IT READS IS OF BULK AT MOST 1048576: true; the input reads as it did. -/
def suffixOrderUptoRow : OpenClaim := { program := "ytbnlapickajiaaa", sum := "b0455aa30c04445b9772147ba679d0e92830e63824c94d5b41190913a3a79b36", func := "fustian/fustiankeep.SuffixOrder", spec := "suffixOrder", unfollowed := true, recurses := true, apart := false, narrowed := true }
def SuffixOrderUptoSaid : Prop := suffixOrderUptoRow.holds Try.pinned (OpenSpec.upto suffixOrderSpec)

/-- 'fustiankeep.SuffixHalf', WHERE WHAT IT READS IS OF BULK AT MOST 1048576: true; the input reads as it did. -/
def suffixHalfUptoRow : OpenClaim := { program := "ytbnlapickajiaaa", sum := "b0455aa30c04445b9772147ba679d0e92830e63824c94d5b41190913a3a79b36", func := "fustian/fustiankeep.SuffixHalf", spec := "suffixHalf", unfollowed := true, recurses := true, apart := false, narrowed := true }
def SuffixHalfUptoSaid : Prop := suffixHalfUptoRow.holds Try.pinned (OpenSpec.upto suffixHalfSpec)

/-- 'fustiankeep.SuffixCounts', WHERE WHAT IT READS IS OF BULK AT MOST 1048576: true; the input reads as it did. -/
def suffixCountsUptoRow : OpenClaim := { program := "ytbnlapickajiaaa", sum := "b0455aa30c04445b9772147ba679d0e92830e63824c94d5b41190913a3a79b36", func := "fustian/fustiankeep.SuffixCounts", spec := "suffixCounts", unfollowed := true, recurses := true, apart := false, narrowed := true }
def SuffixCountsUptoSaid : Prop := suffixCountsUptoRow.holds Try.pinned (OpenSpec.upto suffixCountsSpec)

/-- 'fustiankeep.SuffixAgain', WHERE WHAT IT READS IS OF BULK AT MOST 1048576: true; the input reads as it did. -/
def suffixAgainUptoRow : OpenClaim := { program := "ytbnlapickajiaaa", sum := "b0455aa30c04445b9772147ba679d0e92830e63824c94d5b41190913a3a79b36", func := "fustian/fustiankeep.SuffixAgain", spec := "suffixAgain", unfollowed := true, recurses := true, apart := false, narrowed := true }
def SuffixAgainUptoSaid : Prop := suffixAgainUptoRow.holds Try.pinned (OpenSpec.upto suffixAgainSpec)

end Rows
end Go.Proofs.Ytbnlapickajiaaa
