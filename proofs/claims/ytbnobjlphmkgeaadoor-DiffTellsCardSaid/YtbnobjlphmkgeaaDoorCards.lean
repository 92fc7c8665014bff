/-
  DERIVED. GIVEN WITH THE SEED: THE CARDS: each row of YtbnobjlphmkgeaaDoorRows.lean that lists a variable, with what it lists TIED to the program's text (the seventh form; the later family's looks); each row that meets fmt, with fmt's text TOLD by the authors' own Lean function (tested against real Go, not proved from fmt's source: count such statements apart). THE CARD IS WHAT COUNTS. Prove the row's statement (the work); the ties are given (YtbnobjlphmkgeaaDoorTie.lean); close each card by the builder's one call (the guide's Derived/Test/ToyasCard.lean, 'card_holds'). Laid BY PROGRAM, IN A SANDBOX (cutbox-door.mjs). By AI agents, Wed Nov 11 2026. No macro, syntax, notation, axiom, sorry.
-/
import Derived.Test.YtbnobjlphmkgeaaDoorRows
import GoSem.ClaimSeven
namespace Go.Proofs.YtbnobjlphmkgeaaDoor
namespace Rows

/-- THE TIED CARD OF 'vaultlaw1.PagesPlays'. -/
def pagesPlaysCard : Claim7 := { stood := { row := pagesPlaysRow, standIns := [], harness := (true, "d16032a8b4b660327c9aea8ff099bf3d6005676e84e1dc4688751a1214e680b0"), looks := true }, kinds := [], alts := [], laidByText := true, laidKinds := [.handle], laidTests := true, laidLooks := .later }
def PagesPlaysCardSaid : Prop := Claim7.holds Tryd.pinned (.plain (OpenSpec.ofChange pagesPlaysSpec)) pagesPlaysCard

/-- THE TIED CARD OF 'vaultlaw1.DiffTells'. -/
def diffTellsCard : Claim7 := { stood := { row := diffTellsRow, standIns := [], harness := (true, "d16032a8b4b660327c9aea8ff099bf3d6005676e84e1dc4688751a1214e680b0"), looks := true }, kinds := [], alts := [], laidByText := true, laidKinds := [.handle], laidTests := true, laidLooks := .later }
def DiffTellsCardSaid : Prop := Claim7.holds Tryd.pinned (.plain (OpenSpec.ofChange diffTellsSpec)) diffTellsCard

/-- THE SECOND FORM's CARD OF 'vaultlaw1.PagesPlays'. -/
def pagesPlaysUptoCard : Claim7 := { stood := { row := pagesPlaysUptoRow, standIns := [], harness := (true, "d16032a8b4b660327c9aea8ff099bf3d6005676e84e1dc4688751a1214e680b0"), looks := true }, kinds := [], alts := [], laidByText := true, laidKinds := [.handle], laidTests := true, laidLooks := .later }
def PagesPlaysUptoCardSaid : Prop := Claim7.holds Tryd.pinned (.plain (OpenSpec.upto pagesPlaysSpec)) pagesPlaysUptoCard

/-- THE SECOND FORM's CARD OF 'vaultlaw1.DiffTells'. -/
def diffTellsUptoCard : Claim7 := { stood := { row := diffTellsUptoRow, standIns := [], harness := (true, "d16032a8b4b660327c9aea8ff099bf3d6005676e84e1dc4688751a1214e680b0"), looks := true }, kinds := [], alts := [], laidByText := true, laidKinds := [.handle], laidTests := true, laidLooks := .later }
def DiffTellsUptoCardSaid : Prop := Claim7.holds Tryd.pinned (.plain (OpenSpec.upto diffTellsSpec)) diffTellsUptoCard
end Rows
end Go.Proofs.YtbnobjlphmkgeaaDoor
