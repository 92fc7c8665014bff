/-
  DERIVED. GIVEN WITH THE SEED: THE CARDS: each row of YtnceheienlekaaaGreatDoorRows.lean that lists a variable, with what it lists TIED to the program's text (the seventh form; the later family's looks); each row that meets fmt, with fmt's text TOLD by the authors' own Lean function (tested against real Go, not proved from fmt's source: count such statements apart). THE CARD IS WHAT COUNTS. Prove the row's statement (the work); the ties are given (YtnceheienlekaaaGreatDoorTie.lean); close each card by the builder's one call (the guide's Derived/Test/ToyasCard.lean, 'card_holds'). Laid BY PROGRAM, IN A SANDBOX (cutbox-door.mjs). By AI agents, Wed Nov 11 2026. No macro, syntax, notation, axiom, sorry.
-/
import Derived.Test.YtnceheienlekaaaGreatDoorRows
import GoSem.ClaimSeven
namespace Go.Proofs.YtnceheienlekaaaGreatDoor
namespace Rows

/-- THE TIED CARD OF 'vaultlaw2.RootLeads'. -/
def rootLeadsCard : Claim7 := { stood := { row := rootLeadsRow, standIns := [], harness := (true, "ca8031a09b95cc21de960f272a9b29acb78837152e46f73140b3e92c9e965b28"), looks := true }, kinds := [], alts := [], laidByText := true, laidKinds := [.handle], laidTests := true, laidLooks := .later }
def RootLeadsCardSaid : Prop := Claim7.holds Tryz.pinned (.plain (OpenSpec.ofChange rootLeadsSpec)) rootLeadsCard

/-- THE TIED CARD OF 'vaultlaw4.UndoMarks'. -/
def undoMarksCard : Claim7 := { stood := { row := undoMarksRow, standIns := [], harness := (true, "ca8031a09b95cc21de960f272a9b29acb78837152e46f73140b3e92c9e965b28"), looks := true }, kinds := [], alts := [], laidByText := true, laidKinds := [.handle], laidTests := true, laidLooks := .later }
def UndoMarksCardSaid : Prop := Claim7.holds Tryz.pinned (.plain (OpenSpec.ofChange undoMarksSpec)) undoMarksCard

/-- THE TIED CARD OF 'vaultlaw4.OldSizes'. -/
def oldSizesCard : Claim7 := { stood := { row := oldSizesRow, standIns := [], harness := (true, "ca8031a09b95cc21de960f272a9b29acb78837152e46f73140b3e92c9e965b28"), looks := true }, kinds := [], alts := [], laidByText := true, laidKinds := [.handle], laidTests := true, laidLooks := .later }
def OldSizesCardSaid : Prop := Claim7.holds Tryz.pinned (.plain (OpenSpec.ofChange oldSizesSpec)) oldSizesCard

/-- THE SECOND FORM's CARD OF 'vaultlaw2.RootLeads'. -/
def rootLeadsUptoCard : Claim7 := { stood := { row := rootLeadsUptoRow, standIns := [], harness := (true, "ca8031a09b95cc21de960f272a9b29acb78837152e46f73140b3e92c9e965b28"), looks := true }, kinds := [], alts := [], laidByText := true, laidKinds := [.handle], laidTests := true, laidLooks := .later }
def RootLeadsUptoCardSaid : Prop := Claim7.holds Tryz.pinned (.plain (OpenSpec.upto rootLeadsSpec)) rootLeadsUptoCard

/-- THE SECOND FORM's CARD OF 'vaultlaw4.UndoMarks'. -/
def undoMarksUptoCard : Claim7 := { stood := { row := undoMarksUptoRow, standIns := [], harness := (true, "ca8031a09b95cc21de960f272a9b29acb78837152e46f73140b3e92c9e965b28"), looks := true }, kinds := [], alts := [], laidByText := true, laidKinds := [.handle], laidTests := true, laidLooks := .later }
def UndoMarksUptoCardSaid : Prop := Claim7.holds Tryz.pinned (.plain (OpenSpec.upto undoMarksSpec)) undoMarksUptoCard

/-- THE SECOND FORM's CARD OF 'vaultlaw4.OldSizes'. -/
def oldSizesUptoCard : Claim7 := { stood := { row := oldSizesUptoRow, standIns := [], harness := (true, "ca8031a09b95cc21de960f272a9b29acb78837152e46f73140b3e92c9e965b28"), looks := true }, kinds := [], alts := [], laidByText := true, laidKinds := [.handle], laidTests := true, laidLooks := .later }
def OldSizesUptoCardSaid : Prop := Claim7.holds Tryz.pinned (.plain (OpenSpec.upto oldSizesSpec)) oldSizesUptoCard
end Rows
end Go.Proofs.YtnceheienlekaaaGreatDoor
