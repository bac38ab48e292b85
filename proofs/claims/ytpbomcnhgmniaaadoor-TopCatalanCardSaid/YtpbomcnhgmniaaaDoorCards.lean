/-
  DERIVED. GIVEN WITH THE SEED: THE CARDS: each row of YtpbomcnhgmniaaaDoorRows.lean that lists a variable, with what it lists TIED to the program's text (the seventh form; the later family's looks); each row that meets fmt, with fmt's text TOLD by the authors' own Lean function (tested against real Go, not proved from fmt's source: count such statements apart). THE CARD IS WHAT COUNTS. Prove the row's statement (the work); the ties are given (YtpbomcnhgmniaaaDoorTie.lean); close each card by the builder's one call (the guide's Derived/Test/ToyasCard.lean, 'card_holds'). Laid BY PROGRAM, IN A SANDBOX (cutbox-door.mjs). By AI agents, Wed Nov 11 2026. No macro, syntax, notation, axiom, sorry.
-/
import Derived.Test.YtpbomcnhgmniaaaDoorRows
import GoSem.ClaimSeven
namespace Go.Proofs.YtpbomcnhgmniaaaDoor
namespace Rows

/-- THE TIED CARD OF 'sentineltop.TopCatalan'. -/
def topCatalanCard : Claim7 := { stood := { row := topCatalanRow, standIns := [], harness := (true, "bae30cb07b6cd4ab49c7626d4e02960cde9ee75a90723923a73c43169a257f91"), looks := true }, kinds := [], alts := [], laidByText := true, laidKinds := [.data, .pinned], laidTests := true, laidLooks := .later }
def TopCatalanCardSaid : Prop := Claim7.holds Tryd.pinned (.plain (OpenSpec.ofChange topCatalanSpec)) topCatalanCard

/-- THE SECOND FORM's CARD OF 'sentineltop.TopCatalan'. -/
def topCatalanUptoCard : Claim7 := { stood := { row := topCatalanUptoRow, standIns := [], harness := (true, "bae30cb07b6cd4ab49c7626d4e02960cde9ee75a90723923a73c43169a257f91"), looks := true }, kinds := [], alts := [], laidByText := true, laidKinds := [.data, .pinned], laidTests := true, laidLooks := .later }
def TopCatalanUptoCardSaid : Prop := Claim7.holds Tryd.pinned (.plain (OpenSpec.upto topCatalanSpec)) topCatalanUptoCard
end Rows
end Go.Proofs.YtpbomcnhgmniaaaDoor
