/-
  No cell of these rows narrows 'for every input' (looked for: loops, veiled, ifaces, maps, wideKeys, modest, calm, conditions, laid).
  DERIVED. THE GIVEN ROWS OF THIS SEAT. 12 by the template 'for every input the law returns true; each argument reads behind the call as it read before'; 0 by the template 'total and deterministic' (their statements: YtddbhoilhapljaaTotals.lean).
  GIVEN WITH THE SEED: the statements are not yours to turn. If you find one false, say at which input.
  Laid BY PROGRAM, IN A SANDBOX (cutbox-rows.mjs): the forced cells as the released guide's own fill.sh prints them over the translation d974d205a69d08e5… (all of the seat's roots in one cut). By AI agents, Wed Nov 11 2026. No macro, syntax, notation, axiom, sorry.
-/
import Derived.Test.YtddbhoilhapljaaChecked
import GoSem.Claim
import GoSem.ClaimJoined
import GoSem.ClaimMapViews
import Derived.JoinedTies
import Derived.KernelRfl
namespace Go.Proofs.Ytddbhoilhapljaa
/- THE CELL 'sum', in the pinned program and in every row, IS THE sha256 OF THE DUMP (.gsa) THAT YtddbhoilhapljaaProg.lean LOADS. Nothing in Lean hashes anything: it is a label: what it is worth is what the hold of that sum in a sandbox is worth. -/
noncomputable def Try.pinned : Pinned := { name := "ytddbhoilhapljaa", sum := "d974d205a69d08e5d6f9a2d24481d83939dfe6373b3bd705ee6806c13ee020ea", checked := Try.checked }
namespace Rows
def none {H : Type} : Left H := { results := [], args := [] }

/-- 'fustiankeep.SpansTwo': WHATEVER THE INPUT: true; the input reads as it did. -/
def spansTwoSpec : ChangeSpec := { name := "spansTwo", fn := fun _ => fun
  | [d1, d2, d3, d4, d5, d6] => { results := [.lit (.bool true)], args := [d1, d2, d3, d4, d5, d6] }
  | _ => none }
def spansTwoRow : OpenClaim := { program := "ytddbhoilhapljaa", sum := "d974d205a69d08e5d6f9a2d24481d83939dfe6373b3bd705ee6806c13ee020ea", func := "fustian/fustiankeep.SpansTwo", spec := "spansTwo", inPlace := ["slices.overlaps[fustian/api.Span]"], unfollowed := true, recurses := true, apart := false }
def SpansTwoSaid : Prop := spansTwoRow.holds Try.pinned (OpenSpec.ofChange spansTwoSpec)

/-- ITS FALSE NEIGHBOUR: 'it returns false'. Refute it at one input. -/
def spansTwoWrong : ChangeSpec := { name := "spansTwo", fn := fun _ => fun
  | [d1, d2, d3, d4, d5, d6] => { results := [.lit (.bool false)], args := [d1, d2, d3, d4, d5, d6] }
  | _ => none }
def SpansTwoWrongFalsely : Prop := spansTwoRow.holds Try.pinned (OpenSpec.ofChange spansTwoWrong)

/-- 'fustiankeep.SpansFollow': WHATEVER THE INPUT: true; the input reads as it did. -/
def spansFollowSpec : ChangeSpec := { name := "spansFollow", fn := fun _ => fun
  | [d1, d2, d3] => { results := [.lit (.bool true)], args := [d1, d2, d3] }
  | _ => none }
def spansFollowRow : OpenClaim := { program := "ytddbhoilhapljaa", sum := "d974d205a69d08e5d6f9a2d24481d83939dfe6373b3bd705ee6806c13ee020ea", func := "fustian/fustiankeep.SpansFollow", spec := "spansFollow", inPlace := ["slices.overlaps[fustian/api.Span]"], unfollowed := true, recurses := true, apart := false }
def SpansFollowSaid : Prop := spansFollowRow.holds Try.pinned (OpenSpec.ofChange spansFollowSpec)

/-- ITS FALSE NEIGHBOUR: 'it returns false'. Refute it at one input. -/
def spansFollowWrong : ChangeSpec := { name := "spansFollow", fn := fun _ => fun
  | [d1, d2, d3] => { results := [.lit (.bool false)], args := [d1, d2, d3] }
  | _ => none }
def SpansFollowWrongFalsely : Prop := spansFollowRow.holds Try.pinned (OpenSpec.ofChange spansFollowWrong)

/-- 'fustiankeep.NormApart': WHATEVER THE INPUT: true; the input reads as it did. -/
def normApartSpec : ChangeSpec := { name := "normApart", fn := fun _ => fun
  | [d1, d2, d3] => { results := [.lit (.bool true)], args := [d1, d2, d3] }
  | _ => none }
def normApartRow : OpenClaim := { program := "ytddbhoilhapljaa", sum := "d974d205a69d08e5d6f9a2d24481d83939dfe6373b3bd705ee6806c13ee020ea", func := "fustian/fustiankeep.NormApart", spec := "normApart", unfollowed := true, recurses := true, apart := false }
def NormApartSaid : Prop := normApartRow.holds Try.pinned (OpenSpec.ofChange normApartSpec)

/-- ITS FALSE NEIGHBOUR: 'it returns false'. Refute it at one input. -/
def normApartWrong : ChangeSpec := { name := "normApart", fn := fun _ => fun
  | [d1, d2, d3] => { results := [.lit (.bool false)], args := [d1, d2, d3] }
  | _ => none }
def NormApartWrongFalsely : Prop := normApartRow.holds Try.pinned (OpenSpec.ofChange normApartWrong)

/-- 'fustiankeep.TypeEdits': WHATEVER THE INPUT: true; the input reads as it did. -/
def typeEditsSpec : ChangeSpec := { name := "typeEdits", fn := fun _ => fun
  | [d1, d2, d3] => { results := [.lit (.bool true)], args := [d1, d2, d3] }
  | _ => none }
def typeEditsRow : OpenClaim := { program := "ytddbhoilhapljaa", sum := "d974d205a69d08e5d6f9a2d24481d83939dfe6373b3bd705ee6806c13ee020ea", func := "fustian/fustiankeep.TypeEdits", spec := "typeEdits", unfollowed := true, recurses := true, apart := false }
def TypeEditsSaid : Prop := typeEditsRow.holds Try.pinned (OpenSpec.ofChange typeEditsSpec)

/-- ITS FALSE NEIGHBOUR: 'it returns false'. Refute it at one input. -/
def typeEditsWrong : ChangeSpec := { name := "typeEdits", fn := fun _ => fun
  | [d1, d2, d3] => { results := [.lit (.bool false)], args := [d1, d2, d3] }
  | _ => none }
def TypeEditsWrongFalsely : Prop := typeEditsRow.holds Try.pinned (OpenSpec.ofChange typeEditsWrong)

/-- 'fustiankeep.FollowWithin': WHATEVER THE INPUT: true; the input reads as it did. -/
def followWithinSpec : ChangeSpec := { name := "followWithin", fn := fun _ => fun
  | [d1, d2, d3] => { results := [.lit (.bool true)], args := [d1, d2, d3] }
  | _ => none }
def followWithinRow : OpenClaim := { program := "ytddbhoilhapljaa", sum := "d974d205a69d08e5d6f9a2d24481d83939dfe6373b3bd705ee6806c13ee020ea", func := "fustian/fustiankeep.FollowWithin", spec := "followWithin", unfollowed := true, recurses := true, apart := false }
def FollowWithinSaid : Prop := followWithinRow.holds Try.pinned (OpenSpec.ofChange followWithinSpec)

/-- ITS FALSE NEIGHBOUR: 'it returns false'. Refute it at one input. -/
def followWithinWrong : ChangeSpec := { name := "followWithin", fn := fun _ => fun
  | [d1, d2, d3] => { results := [.lit (.bool false)], args := [d1, d2, d3] }
  | _ => none }
def FollowWithinWrongFalsely : Prop := followWithinRow.holds Try.pinned (OpenSpec.ofChange followWithinWrong)

/-- 'fustiankeep.RopeCut': WHATEVER THE INPUT: true; the input reads as it did. -/
def ropeCutSpec : ChangeSpec := { name := "ropeCut", fn := fun _ => fun
  | [d1, d2, d3] => { results := [.lit (.bool true)], args := [d1, d2, d3] }
  | _ => none }
def ropeCutRow : OpenClaim := { program := "ytddbhoilhapljaa", sum := "d974d205a69d08e5d6f9a2d24481d83939dfe6373b3bd705ee6806c13ee020ea", func := "fustian/fustiankeep.RopeCut", spec := "ropeCut", inPlace := ["internal/bytealg.CountString", "internal/bytealg.IndexByteString", "internal/bytealg.IndexString"], unfollowed := true, recurses := true, named := ["internal/bytealg.MaxLen"], apart := false }
def RopeCutSaid : Prop := ropeCutRow.holds Try.pinned (OpenSpec.ofChange ropeCutSpec)

/-- ITS FALSE NEIGHBOUR: 'it returns false'. Refute it at one input. -/
def ropeCutWrong : ChangeSpec := { name := "ropeCut", fn := fun _ => fun
  | [d1, d2, d3] => { results := [.lit (.bool false)], args := [d1, d2, d3] }
  | _ => none }
def RopeCutWrongFalsely : Prop := ropeCutRow.holds Try.pinned (OpenSpec.ofChange ropeCutWrong)

/-- 'fustiankeep.RopeStays': WHATEVER THE INPUT: true; the input reads as it did. -/
def ropeStaysSpec : ChangeSpec := { name := "ropeStays", fn := fun _ => fun
  | [d1, d2] => { results := [.lit (.bool true)], args := [d1, d2] }
  | _ => none }
def ropeStaysRow : OpenClaim := { program := "ytddbhoilhapljaa", sum := "d974d205a69d08e5d6f9a2d24481d83939dfe6373b3bd705ee6806c13ee020ea", func := "fustian/fustiankeep.RopeStays", spec := "ropeStays", inPlace := ["internal/bytealg.CountString", "internal/bytealg.IndexByteString", "internal/bytealg.IndexString"], unfollowed := true, recurses := true, named := ["internal/bytealg.MaxLen"], apart := false }
def RopeStaysSaid : Prop := ropeStaysRow.holds Try.pinned (OpenSpec.ofChange ropeStaysSpec)

/-- ITS FALSE NEIGHBOUR: 'it returns false'. Refute it at one input. -/
def ropeStaysWrong : ChangeSpec := { name := "ropeStays", fn := fun _ => fun
  | [d1, d2] => { results := [.lit (.bool false)], args := [d1, d2] }
  | _ => none }
def RopeStaysWrongFalsely : Prop := ropeStaysRow.holds Try.pinned (OpenSpec.ofChange ropeStaysWrong)

/-- 'fustiankeep.RopeCopies': WHATEVER THE INPUT: true; the input reads as it did. -/
def ropeCopiesSpec : ChangeSpec := { name := "ropeCopies", fn := fun _ => fun
  | [d1, d2] => { results := [.lit (.bool true)], args := [d1, d2] }
  | _ => none }
def ropeCopiesRow : OpenClaim := { program := "ytddbhoilhapljaa", sum := "d974d205a69d08e5d6f9a2d24481d83939dfe6373b3bd705ee6806c13ee020ea", func := "fustian/fustiankeep.RopeCopies", spec := "ropeCopies", inPlace := ["internal/bytealg.CountString", "internal/bytealg.IndexByteString", "internal/bytealg.IndexString"], unfollowed := true, recurses := true, named := ["internal/bytealg.MaxLen"], apart := false }
def RopeCopiesSaid : Prop := ropeCopiesRow.holds Try.pinned (OpenSpec.ofChange ropeCopiesSpec)

/-- ITS FALSE NEIGHBOUR: 'it returns false'. Refute it at one input. -/
def ropeCopiesWrong : ChangeSpec := { name := "ropeCopies", fn := fun _ => fun
  | [d1, d2] => { results := [.lit (.bool false)], args := [d1, d2] }
  | _ => none }
def RopeCopiesWrongFalsely : Prop := ropeCopiesRow.holds Try.pinned (OpenSpec.ofChange ropeCopiesWrong)

/-- 'fustiankeep.RopeShallow': WHATEVER THE INPUT: true; the input reads as it did. -/
def ropeShallowSpec : ChangeSpec := { name := "ropeShallow", fn := fun _ => fun
  | [d1, d2] => { results := [.lit (.bool true)], args := [d1, d2] }
  | _ => none }
def ropeShallowRow : OpenClaim := { program := "ytddbhoilhapljaa", sum := "d974d205a69d08e5d6f9a2d24481d83939dfe6373b3bd705ee6806c13ee020ea", func := "fustian/fustiankeep.RopeShallow", spec := "ropeShallow", inPlace := ["internal/bytealg.CountString", "internal/bytealg.IndexByteString", "internal/bytealg.IndexString"], recurses := true, named := ["internal/bytealg.MaxLen"], apart := false }
def RopeShallowSaid : Prop := ropeShallowRow.holds Try.pinned (OpenSpec.ofChange ropeShallowSpec)

/-- ITS FALSE NEIGHBOUR: 'it returns false'. Refute it at one input. -/
def ropeShallowWrong : ChangeSpec := { name := "ropeShallow", fn := fun _ => fun
  | [d1, d2] => { results := [.lit (.bool false)], args := [d1, d2] }
  | _ => none }
def RopeShallowWrongFalsely : Prop := ropeShallowRow.holds Try.pinned (OpenSpec.ofChange ropeShallowWrong)

/-- 'fustiankeep.RopeSame': WHATEVER THE INPUT: true; the input reads as it did. -/
def ropeSameSpec : ChangeSpec := { name := "ropeSame", fn := fun _ => fun
  | [d1, d2, d3] => { results := [.lit (.bool true)], args := [d1, d2, d3] }
  | _ => none }
def ropeSameRow : OpenClaim := { program := "ytddbhoilhapljaa", sum := "d974d205a69d08e5d6f9a2d24481d83939dfe6373b3bd705ee6806c13ee020ea", func := "fustian/fustiankeep.RopeSame", spec := "ropeSame", inPlace := ["internal/bytealg.CountString", "internal/bytealg.IndexByteString", "internal/bytealg.IndexString"], unfollowed := true, recurses := true, named := ["internal/bytealg.MaxLen"], apart := false }
def RopeSameSaid : Prop := ropeSameRow.holds Try.pinned (OpenSpec.ofChange ropeSameSpec)

/-- ITS FALSE NEIGHBOUR: 'it returns false'. Refute it at one input. -/
def ropeSameWrong : ChangeSpec := { name := "ropeSame", fn := fun _ => fun
  | [d1, d2, d3] => { results := [.lit (.bool false)], args := [d1, d2, d3] }
  | _ => none }
def RopeSameWrongFalsely : Prop := ropeSameRow.holds Try.pinned (OpenSpec.ofChange ropeSameWrong)

/-- 'fustiantop.TopRope': WHATEVER THE INPUT: true; the input reads as it did. -/
def topRopeSpec : ChangeSpec := { name := "topRope", fn := fun _ => fun
  | [d1, d2] => { results := [.lit (.bool true)], args := [d1, d2] }
  | _ => none }
def topRopeRow : OpenClaim := { program := "ytddbhoilhapljaa", sum := "d974d205a69d08e5d6f9a2d24481d83939dfe6373b3bd705ee6806c13ee020ea", func := "fustian/fustiantop.TopRope", spec := "topRope", inPlace := ["internal/bytealg.CountString", "internal/bytealg.IndexByteString", "internal/bytealg.IndexString"], unfollowed := true, recurses := true, named := ["internal/bytealg.MaxLen"], apart := false }
def TopRopeSaid : Prop := topRopeRow.holds Try.pinned (OpenSpec.ofChange topRopeSpec)

/-- ITS FALSE NEIGHBOUR: 'it returns false'. Refute it at one input. -/
def topRopeWrong : ChangeSpec := { name := "topRope", fn := fun _ => fun
  | [d1, d2] => { results := [.lit (.bool false)], args := [d1, d2] }
  | _ => none }
def TopRopeWrongFalsely : Prop := topRopeRow.holds Try.pinned (OpenSpec.ofChange topRopeWrong)

/-- 'fustiankeep.WordsEdge': WHATEVER THE INPUT: true; the input reads as it did. -/
def wordsEdgeSpec : ChangeSpec := { name := "wordsEdge", fn := fun _ => fun
  | [d1, d2] => { results := [.lit (.bool true)], args := [d1, d2] }
  | _ => none }
def wordsEdgeRow : OpenClaim := { program := "ytddbhoilhapljaa", sum := "d974d205a69d08e5d6f9a2d24481d83939dfe6373b3bd705ee6806c13ee020ea", func := "fustian/fustiankeep.WordsEdge", spec := "wordsEdge", unfollowed := true, recurses := true, apart := false }
def WordsEdgeSaid : Prop := wordsEdgeRow.holds Try.pinned (OpenSpec.ofChange wordsEdgeSpec)

/-- ITS FALSE NEIGHBOUR: 'it returns false'. Refute it at one input. -/
def wordsEdgeWrong : ChangeSpec := { name := "wordsEdge", fn := fun _ => fun
  | [d1, d2] => { results := [.lit (.bool false)], args := [d1, d2] }
  | _ => none }
def WordsEdgeWrongFalsely : Prop := wordsEdgeRow.holds Try.pinned (OpenSpec.ofChange wordsEdgeWrong)

/- THE SECOND FORM. 'bulk': how many values and letters a reading holds, each counted each time it is reached (what is shared counts as often as it is met; a slice's spare places count too). A statement '..UptoSaid' is the law's where the arguments, and the package variables that the reading takes, are together of bulk at most 1048576: NARROWER than '..Said'. Prove '..Said' where nothing that the law and all that it calls make is longer than what came in: it says more and counts as full. Else prove '..UptoSaid'. A law counts once. -/
mutual
def uptoBulk {H : Type} : DataW H → Nat
  | .lit (.string bytes) => bytes.length + 1
  | .lit _ => 1
  | .nil => 1
  | .ptr d => uptoBulk d + 1
  | .slice elems spare => uptoBulkAll elems + uptoBulkAll spare + 1
  | .agg parts => uptoBulkAll parts + 1
  | .iface _ d => uptoBulk d + 1
  | .map entries => uptoBulkEntries entries + 1
  | .held _ => 1
def uptoBulkAll {H : Type} : List (DataW H) → Nat
  | [] => 0
  | d :: r => uptoBulk d + uptoBulkAll r
def uptoBulkEntries {H : Type} : List (Lit × DataW H) → Nat
  | [] => 0
  | x :: r => uptoBulkEntry x + uptoBulkEntries r
def uptoBulkEntry {H : Type} : Lit × DataW H → Nat
  | (.string bytes, d) => bytes.length + uptoBulk d + 1
  | (_, d) => uptoBulk d + 1
 end
def uptoSmall : (H : Type) → List (DataW H) → Bool := fun _ ds => decide (uptoBulkAll ds ≤ 1048576)
def OpenSpec.upto (s : _root_.Go.ChangeSpec) : _root_.Go.OpenSpec := { _root_.Go.OpenSpec.ofChange s with cond := some uptoSmall }

/-- 'fustiankeep.SpansTwo', WHERE WHAT IT READS IS OF BULK AT MOST 1048576: true; the input reads as it did. -/
def spansTwoUptoRow : OpenClaim := { program := "ytddbhoilhapljaa", sum := "d974d205a69d08e5d6f9a2d24481d83939dfe6373b3bd705ee6806c13ee020ea", func := "fustian/fustiankeep.SpansTwo", spec := "spansTwo", inPlace := ["slices.overlaps[fustian/api.Span]"], unfollowed := true, recurses := true, apart := false, narrowed := true }
def SpansTwoUptoSaid : Prop := spansTwoUptoRow.holds Try.pinned (OpenSpec.upto spansTwoSpec)

/-- 'fustiankeep.SpansFollow', WHERE WHAT IT READS IS OF BULK AT MOST 1048576: true; the input reads as it did. -/
def spansFollowUptoRow : OpenClaim := { program := "ytddbhoilhapljaa", sum := "d974d205a69d08e5d6f9a2d24481d83939dfe6373b3bd705ee6806c13ee020ea", func := "fustian/fustiankeep.SpansFollow", spec := "spansFollow", inPlace := ["slices.overlaps[fustian/api.Span]"], unfollowed := true, recurses := true, apart := false, narrowed := true }
def SpansFollowUptoSaid : Prop := spansFollowUptoRow.holds Try.pinned (OpenSpec.upto spansFollowSpec)

/-- 'fustiankeep.NormApart', WHERE WHAT IT READS IS OF BULK AT MOST 1048576: true; the input reads as it did. -/
def normApartUptoRow : OpenClaim := { program := "ytddbhoilhapljaa", sum := "d974d205a69d08e5d6f9a2d24481d83939dfe6373b3bd705ee6806c13ee020ea", func := "fustian/fustiankeep.NormApart", spec := "normApart", unfollowed := true, recurses := true, apart := false, narrowed := true }
def NormApartUptoSaid : Prop := normApartUptoRow.holds Try.pinned (OpenSpec.upto normApartSpec)

/-- 'fustiankeep.TypeEdits', WHERE WHAT IT READS IS OF BULK AT MOST 1048576: true; the input reads as it did. -/
def typeEditsUptoRow : OpenClaim := { program := "ytddbhoilhapljaa", sum := "d974d205a69d08e5d6f9a2d24481d83939dfe6373b3bd705ee6806c13ee020ea", func := "fustian/fustiankeep.TypeEdits", spec := "typeEdits", unfollowed := true, recurses := true, apart := false, narrowed := true }
def TypeEditsUptoSaid : Prop := typeEditsUptoRow.holds Try.pinned (OpenSpec.upto typeEditsSpec)

/-- 'fustiankeep.FollowWithin', WHERE WHAT IT READS IS OF BULK AT MOST 1048576: true; the input reads as it did. -/
def followWithinUptoRow : OpenClaim := { program := "ytddbhoilhapljaa", sum := "d974d205a69d08e5d6f9a2d24481d83939dfe6373b3bd705ee6806c13ee020ea", func := "fustian/fustiankeep.FollowWithin", spec := "followWithin", unfollowed := true, recurses := true, apart := false, narrowed := true }
def FollowWithinUptoSaid : Prop := followWithinUptoRow.holds Try.pinned (OpenSpec.upto followWithinSpec)

/-- 'fustiankeep.RopeCut', WHERE WHAT IT READS IS OF BULK AT MOST 1048576: true; the input reads as it did. -/
def ropeCutUptoRow : OpenClaim := { program := "ytddbhoilhapljaa", sum := "d974d205a69d08e5d6f9a2d24481d83939dfe6373b3bd705ee6806c13ee020ea", func := "fustian/fustiankeep.RopeCut", spec := "ropeCut", inPlace := ["internal/bytealg.CountString", "internal/bytealg.IndexByteString", "internal/bytealg.IndexString"], unfollowed := true, recurses := true, named := ["internal/bytealg.MaxLen"], apart := false, narrowed := true }
def RopeCutUptoSaid : Prop := ropeCutUptoRow.holds Try.pinned (OpenSpec.upto ropeCutSpec)

/-- 'fustiankeep.RopeStays', WHERE WHAT IT READS IS OF BULK AT MOST 1048576: true; the input reads as it did. -/
def ropeStaysUptoRow : OpenClaim := { program := "ytddbhoilhapljaa", sum := "d974d205a69d08e5d6f9a2d24481d83939dfe6373b3bd705ee6806c13ee020ea", func := "fustian/fustiankeep.RopeStays", spec := "ropeStays", inPlace := ["internal/bytealg.CountString", "internal/bytealg.IndexByteString", "internal/bytealg.IndexString"], unfollowed := true, recurses := true, named := ["internal/bytealg.MaxLen"], apart := false, narrowed := true }
def RopeStaysUptoSaid : Prop := ropeStaysUptoRow.holds Try.pinned (OpenSpec.upto ropeStaysSpec)

/-- 'fustiankeep.RopeCopies', WHERE WHAT IT READS IS OF BULK AT MOST 1048576: true; the input reads as it did. -/
def ropeCopiesUptoRow : OpenClaim := { program := "ytddbhoilhapljaa", sum := "d974d205a69d08e5d6f9a2d24481d83939dfe6373b3bd705ee6806c13ee020ea", func := "fustian/fustiankeep.RopeCopies", spec := "ropeCopies", inPlace := ["internal/bytealg.CountString", "internal/bytealg.IndexByteString", "internal/bytealg.IndexString"], unfollowed := true, recurses := true, named := ["internal/bytealg.MaxLen"], apart := false, narrowed := true }
def RopeCopiesUptoSaid : Prop := ropeCopiesUptoRow.holds Try.pinned (OpenSpec.upto ropeCopiesSpec)

/-- 'fustiankeep.RopeShallow', WHERE WHAT IT READS IS OF BULK AT MOST 1048576: true; the input reads as it did. -/
def ropeShallowUptoRow : OpenClaim := { program := "ytddbhoilhapljaa", sum := "d974d205a69d08e5d6f9a2d24481d83939dfe6373b3bd705ee6806c13ee020ea", func := "fustian/fustiankeep.RopeShallow", spec := "ropeShallow", inPlace := ["internal/bytealg.CountString", "internal/bytealg.IndexByteString", "internal/bytealg.IndexString"], recurses := true, named := ["internal/bytealg.MaxLen"], apart := false, narrowed := true }
def RopeShallowUptoSaid : Prop := ropeShallowUptoRow.holds Try.pinned (OpenSpec.upto ropeShallowSpec)

/-- 'fustiankeep.RopeSame', WHERE WHAT IT READS IS OF BULK AT MOST 1048576: true; the input reads as it did. -/
def ropeSameUptoRow : OpenClaim := { program := "ytddbhoilhapljaa", sum := "d974d205a69d08e5d6f9a2d24481d83939dfe6373b3bd705ee6806c13ee020ea", func := "fustian/fustiankeep.RopeSame", spec := "ropeSame", inPlace := ["internal/bytealg.CountString", "internal/bytealg.IndexByteString", "internal/bytealg.IndexString"], unfollowed := true, recurses := true, named := ["internal/bytealg.MaxLen"], apart := false, narrowed := true }
def RopeSameUptoSaid : Prop := ropeSameUptoRow.holds Try.pinned (OpenSpec.upto ropeSameSpec)

/-- 'fustiantop.TopRope', WHERE WHAT IT READS IS OF BULK AT MOST 1048576: true; the input reads as it did. -/
def topRopeUptoRow : OpenClaim := { program := "ytddbhoilhapljaa", sum := "d974d205a69d08e5d6f9a2d24481d83939dfe6373b3bd705ee6806c13ee020ea", func := "fustian/fustiantop.TopRope", spec := "topRope", inPlace := ["internal/bytealg.CountString", "internal/bytealg.IndexByteString", "internal/bytealg.IndexString"], unfollowed := true, recurses := true, named := ["internal/bytealg.MaxLen"], apart := false, narrowed := true }
def TopRopeUptoSaid : Prop := topRopeUptoRow.holds Try.pinned (OpenSpec.upto topRopeSpec)

/-- 'fustiankeep.WordsEdge', WHERE WHAT IT READS IS OF BULK AT MOST 1048576: true; the input reads as it did. -/
def wordsEdgeUptoRow : OpenClaim := { program := "ytddbhoilhapljaa", sum := "d974d205a69d08e5d6f9a2d24481d83939dfe6373b3bd705ee6806c13ee020ea", func := "fustian/fustiankeep.WordsEdge", spec := "wordsEdge", unfollowed := true, recurses := true, apart := false, narrowed := true }
def WordsEdgeUptoSaid : Prop := wordsEdgeUptoRow.holds Try.pinned (OpenSpec.upto wordsEdgeSpec)

end Rows
end Go.Proofs.Ytddbhoilhapljaa
