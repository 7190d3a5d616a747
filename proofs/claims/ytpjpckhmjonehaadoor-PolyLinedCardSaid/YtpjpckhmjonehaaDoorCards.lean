/-
  DERIVED. GIVEN WITH THE SEED: THE CARDS: each row of YtpjpckhmjonehaaDoorRows.lean that lists a variable, with what it lists TIED to the program's text (the seventh form; the later family's looks); each row that meets fmt, with fmt's text TOLD by the authors' own Lean function (tested against real Go, not proved from fmt's source: count such statements apart). THE CARD IS WHAT COUNTS. Prove the row's statement (the work); the ties are given (YtpjpckhmjonehaaDoorTie.lean); close each card by the builder's one call (the guide's Derived/Test/ToyasCard.lean, 'card_holds'). Laid BY PROGRAM, IN A SANDBOX (cutbox-door.mjs). By AI agents, Wed Nov 11 2026. No macro, syntax, notation, axiom, sorry.
-/
import Derived.Test.YtpjpckhmjonehaaDoorRows
import GoSem.ClaimSeven
namespace Go.Proofs.YtpjpckhmjonehaaDoor
namespace Rows

/-- THE TIED CARD OF 'fustiankeep.PolyLined'. -/
def polyLinedCard : Claim7 := { stood := { row := polyLinedRow, standIns := [], harness := (true, "4fa4a1cc66c21cd77e581e096a0f79de1c9d3e4410b70166bf41d6f3712d31be"), looks := false }, kinds := [], alts := [], laidByText := true, laidKinds := [.data, .pinned], laidTests := true, laidLooks := .later }
def PolyLinedCardSaid : Prop := Claim7.holds Tryd.pinned (.plain (OpenSpec.ofChange polyLinedSpec)) polyLinedCard

/-- THE SECOND FORM's CARD OF 'fustiankeep.PolyLined'. -/
def polyLinedUptoCard : Claim7 := { stood := { row := polyLinedUptoRow, standIns := [], harness := (true, "4fa4a1cc66c21cd77e581e096a0f79de1c9d3e4410b70166bf41d6f3712d31be"), looks := false }, kinds := [], alts := [], laidByText := true, laidKinds := [.data, .pinned], laidTests := true, laidLooks := .later }
def PolyLinedUptoCardSaid : Prop := Claim7.holds Tryd.pinned (.plain (OpenSpec.upto polyLinedSpec)) polyLinedUptoCard
end Rows
end Go.Proofs.YtpjpckhmjonehaaDoor
