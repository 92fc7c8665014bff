/-
  DERIVED. GIVEN WITH THE SEED: THE CARDS: each row of YtlkibidblpdjcaaDoorRows.lean that lists a variable, with what it lists TIED to the program's text (the seventh form; the later family's looks); each row that meets fmt, with fmt's text TOLD by the authors' own Lean function (tested against real Go, not proved from fmt's source: count such statements apart). THE CARD IS WHAT COUNTS. Prove the row's statement (the work); the ties are given (YtlkibidblpdjcaaDoorTie.lean); close each card by the builder's one call (the guide's Derived/Test/ToyasCard.lean, 'card_holds'). Laid BY PROGRAM, IN A SANDBOX (cutbox-door.mjs). By AI agents, Wed Nov 11 2026. No macro, syntax, notation, axiom, sorry.
-/
import Derived.Test.YtlkibidblpdjcaaDoorRows
import GoSem.ClaimSeven
namespace Go.Proofs.YtlkibidblpdjcaaDoor
namespace Rows

/-- THE TIED CARD OF 'vaultlaw1.DeviceBack'. -/
def deviceBackCard : Claim7 := { stood := { row := deviceBackRow, standIns := [], harness := (true, "d90a27fe947ee867ed5d293f48cf2cf95a3f2c9196a0c2dd6d8614395b41f90e"), looks := true }, kinds := [], alts := [], laidByText := true, laidKinds := [.handle], laidTests := true, laidLooks := .later }
def DeviceBackCardSaid : Prop := Claim7.holds Tryd.pinned (.plain (OpenSpec.ofChange deviceBackSpec)) deviceBackCard

/-- THE TIED CARD OF 'vaultlaw4.DeviceStops'. -/
def deviceStopsCard : Claim7 := { stood := { row := deviceStopsRow, standIns := [], harness := (true, "d90a27fe947ee867ed5d293f48cf2cf95a3f2c9196a0c2dd6d8614395b41f90e"), looks := true }, kinds := [], alts := [], laidByText := true, laidKinds := [.handle], laidTests := true, laidLooks := .later }
def DeviceStopsCardSaid : Prop := Claim7.holds Tryd.pinned (.plain (OpenSpec.ofChange deviceStopsSpec)) deviceStopsCard

/-- THE TIED CARD OF 'vaultlaw1.DevicePlays'. -/
def devicePlaysCard : Claim7 := { stood := { row := devicePlaysRow, standIns := [], harness := (true, "d90a27fe947ee867ed5d293f48cf2cf95a3f2c9196a0c2dd6d8614395b41f90e"), looks := true }, kinds := [], alts := [], laidByText := true, laidKinds := [.handle], laidTests := true, laidLooks := .later }
def DevicePlaysCardSaid : Prop := Claim7.holds Tryd.pinned (.plain (OpenSpec.ofChange devicePlaysSpec)) devicePlaysCard

/-- THE TIED CARD OF 'vaultlaw1.ImageBack'. -/
def imageBackCard : Claim7 := { stood := { row := imageBackRow, standIns := [], harness := (true, "d90a27fe947ee867ed5d293f48cf2cf95a3f2c9196a0c2dd6d8614395b41f90e"), looks := true }, kinds := [], alts := [], laidByText := true, laidKinds := [.handle], laidTests := true, laidLooks := .later }
def ImageBackCardSaid : Prop := Claim7.holds Tryd.pinned (.plain (OpenSpec.ofChange imageBackSpec)) imageBackCard

/-- THE TIED CARD OF 'vaultlaw1.ImageTells'. -/
def imageTellsCard : Claim7 := { stood := { row := imageTellsRow, standIns := [], harness := (true, "d90a27fe947ee867ed5d293f48cf2cf95a3f2c9196a0c2dd6d8614395b41f90e"), looks := true }, kinds := [], alts := [], laidByText := true, laidKinds := [.handle], laidTests := true, laidLooks := .later }
def ImageTellsCardSaid : Prop := Claim7.holds Tryd.pinned (.plain (OpenSpec.ofChange imageTellsSpec)) imageTellsCard

/-- THE TIED CARD OF 'vaultlaw1.CheckTells'. -/
def checkTellsCard : Claim7 := { stood := { row := checkTellsRow, standIns := [], harness := (true, "d90a27fe947ee867ed5d293f48cf2cf95a3f2c9196a0c2dd6d8614395b41f90e"), looks := true }, kinds := [], alts := [], laidByText := true, laidKinds := [.handle], laidTests := true, laidLooks := .later }
def CheckTellsCardSaid : Prop := Claim7.holds Tryd.pinned (.plain (OpenSpec.ofChange checkTellsSpec)) checkTellsCard

/-- THE TIED CARD OF 'vaultlaw1.DiffTells'. -/
def diffTellsCard : Claim7 := { stood := { row := diffTellsRow, standIns := [], harness := (true, "d90a27fe947ee867ed5d293f48cf2cf95a3f2c9196a0c2dd6d8614395b41f90e"), looks := true }, kinds := [], alts := [], laidByText := true, laidKinds := [.handle], laidTests := true, laidLooks := .later }
def DiffTellsCardSaid : Prop := Claim7.holds Tryd.pinned (.plain (OpenSpec.ofChange diffTellsSpec)) diffTellsCard

/-- THE SECOND FORM's CARD OF 'vaultlaw1.DeviceBack'. -/
def deviceBackUptoCard : Claim7 := { stood := { row := deviceBackUptoRow, standIns := [], harness := (true, "d90a27fe947ee867ed5d293f48cf2cf95a3f2c9196a0c2dd6d8614395b41f90e"), looks := true }, kinds := [], alts := [], laidByText := true, laidKinds := [.handle], laidTests := true, laidLooks := .later }
def DeviceBackUptoCardSaid : Prop := Claim7.holds Tryd.pinned (.plain (OpenSpec.upto deviceBackSpec)) deviceBackUptoCard

/-- THE SECOND FORM's CARD OF 'vaultlaw4.DeviceStops'. -/
def deviceStopsUptoCard : Claim7 := { stood := { row := deviceStopsUptoRow, standIns := [], harness := (true, "d90a27fe947ee867ed5d293f48cf2cf95a3f2c9196a0c2dd6d8614395b41f90e"), looks := true }, kinds := [], alts := [], laidByText := true, laidKinds := [.handle], laidTests := true, laidLooks := .later }
def DeviceStopsUptoCardSaid : Prop := Claim7.holds Tryd.pinned (.plain (OpenSpec.upto deviceStopsSpec)) deviceStopsUptoCard

/-- THE SECOND FORM's CARD OF 'vaultlaw1.DevicePlays'. -/
def devicePlaysUptoCard : Claim7 := { stood := { row := devicePlaysUptoRow, standIns := [], harness := (true, "d90a27fe947ee867ed5d293f48cf2cf95a3f2c9196a0c2dd6d8614395b41f90e"), looks := true }, kinds := [], alts := [], laidByText := true, laidKinds := [.handle], laidTests := true, laidLooks := .later }
def DevicePlaysUptoCardSaid : Prop := Claim7.holds Tryd.pinned (.plain (OpenSpec.upto devicePlaysSpec)) devicePlaysUptoCard

/-- THE SECOND FORM's CARD OF 'vaultlaw1.ImageBack'. -/
def imageBackUptoCard : Claim7 := { stood := { row := imageBackUptoRow, standIns := [], harness := (true, "d90a27fe947ee867ed5d293f48cf2cf95a3f2c9196a0c2dd6d8614395b41f90e"), looks := true }, kinds := [], alts := [], laidByText := true, laidKinds := [.handle], laidTests := true, laidLooks := .later }
def ImageBackUptoCardSaid : Prop := Claim7.holds Tryd.pinned (.plain (OpenSpec.upto imageBackSpec)) imageBackUptoCard

/-- THE SECOND FORM's CARD OF 'vaultlaw1.ImageTells'. -/
def imageTellsUptoCard : Claim7 := { stood := { row := imageTellsUptoRow, standIns := [], harness := (true, "d90a27fe947ee867ed5d293f48cf2cf95a3f2c9196a0c2dd6d8614395b41f90e"), looks := true }, kinds := [], alts := [], laidByText := true, laidKinds := [.handle], laidTests := true, laidLooks := .later }
def ImageTellsUptoCardSaid : Prop := Claim7.holds Tryd.pinned (.plain (OpenSpec.upto imageTellsSpec)) imageTellsUptoCard

/-- THE SECOND FORM's CARD OF 'vaultlaw1.CheckTells'. -/
def checkTellsUptoCard : Claim7 := { stood := { row := checkTellsUptoRow, standIns := [], harness := (true, "d90a27fe947ee867ed5d293f48cf2cf95a3f2c9196a0c2dd6d8614395b41f90e"), looks := true }, kinds := [], alts := [], laidByText := true, laidKinds := [.handle], laidTests := true, laidLooks := .later }
def CheckTellsUptoCardSaid : Prop := Claim7.holds Tryd.pinned (.plain (OpenSpec.upto checkTellsSpec)) checkTellsUptoCard

/-- THE SECOND FORM's CARD OF 'vaultlaw1.DiffTells'. -/
def diffTellsUptoCard : Claim7 := { stood := { row := diffTellsUptoRow, standIns := [], harness := (true, "d90a27fe947ee867ed5d293f48cf2cf95a3f2c9196a0c2dd6d8614395b41f90e"), looks := true }, kinds := [], alts := [], laidByText := true, laidKinds := [.handle], laidTests := true, laidLooks := .later }
def DiffTellsUptoCardSaid : Prop := Claim7.holds Tryd.pinned (.plain (OpenSpec.upto diffTellsSpec)) diffTellsUptoCard
end Rows
end Go.Proofs.YtlkibidblpdjcaaDoor
