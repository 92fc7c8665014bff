/-
  DERIVED. GIVEN WITH THE SEED: THE CARDS: each row of YtcahgmnkphmnhaaGreatDoorRows.lean that lists a variable, with what it lists TIED to the program's text (the seventh form; the later family's looks); each row that meets fmt, with fmt's text TOLD by the authors' own Lean function (tested against real Go, not proved from fmt's source: count such statements apart). THE CARD IS WHAT COUNTS. Prove the row's statement (the work); the ties are given (YtcahgmnkphmnhaaGreatDoorTie.lean); close each card by the builder's one call (the guide's Derived/Test/ToyasCard.lean, 'card_holds'). Laid BY PROGRAM, IN A SANDBOX (cutbox-door.mjs). By AI agents, Wed Nov 11 2026. No macro, syntax, notation, axiom, sorry.
-/
import Derived.Test.YtcahgmnkphmnhaaGreatDoorRows
import GoSem.ClaimSeven
namespace Go.Proofs.YtcahgmnkphmnhaaGreatDoor
namespace Rows

/-- THE TIED CARD OF 'vaultlaw2.ReachTells'. -/
def reachTellsCard : Claim7 := { stood := { row := reachTellsRow, standIns := [], harness := (true, "eab3dff6dfce3d586ec8056796edb22d5f362f2567ac5413cd855ddef9b149d2"), looks := true }, kinds := [], alts := [], laidByText := true, laidKinds := [.handle], laidTests := true, laidLooks := .later }
def ReachTellsCardSaid : Prop := Claim7.holds Tryz.pinned (.plain (OpenSpec.ofChange reachTellsSpec)) reachTellsCard

/-- THE TIED CARD OF 'vaultlaw2.OldTells'. -/
def oldTellsCard : Claim7 := { stood := { row := oldTellsRow, standIns := [], harness := (true, "eab3dff6dfce3d586ec8056796edb22d5f362f2567ac5413cd855ddef9b149d2"), looks := true }, kinds := [], alts := [], laidByText := true, laidKinds := [.handle], laidTests := true, laidLooks := .later }
def OldTellsCardSaid : Prop := Claim7.holds Tryz.pinned (.plain (OpenSpec.ofChange oldTellsSpec)) oldTellsCard

/-- THE TIED CARD OF 'vaultlaw4.OldSizes'. -/
def oldSizesCard : Claim7 := { stood := { row := oldSizesRow, standIns := [], harness := (true, "eab3dff6dfce3d586ec8056796edb22d5f362f2567ac5413cd855ddef9b149d2"), looks := true }, kinds := [], alts := [], laidByText := true, laidKinds := [.handle], laidTests := true, laidLooks := .later }
def OldSizesCardSaid : Prop := Claim7.holds Tryz.pinned (.plain (OpenSpec.ofChange oldSizesSpec)) oldSizesCard

/-- THE TIED CARD OF 'vaultlaw2.MergeTells'. -/
def mergeTellsCard : Claim7 := { stood := { row := mergeTellsRow, standIns := [], harness := (true, "eab3dff6dfce3d586ec8056796edb22d5f362f2567ac5413cd855ddef9b149d2"), looks := true }, kinds := [], alts := [], laidByText := true, laidKinds := [.handle], laidTests := true, laidLooks := .later }
def MergeTellsCardSaid : Prop := Claim7.holds Tryz.pinned (.plain (OpenSpec.ofChange mergeTellsSpec)) mergeTellsCard

/-- THE SECOND FORM's CARD OF 'vaultlaw2.ReachTells'. -/
def reachTellsUptoCard : Claim7 := { stood := { row := reachTellsUptoRow, standIns := [], harness := (true, "eab3dff6dfce3d586ec8056796edb22d5f362f2567ac5413cd855ddef9b149d2"), looks := true }, kinds := [], alts := [], laidByText := true, laidKinds := [.handle], laidTests := true, laidLooks := .later }
def ReachTellsUptoCardSaid : Prop := Claim7.holds Tryz.pinned (.plain (OpenSpec.upto reachTellsSpec)) reachTellsUptoCard

/-- THE SECOND FORM's CARD OF 'vaultlaw2.OldTells'. -/
def oldTellsUptoCard : Claim7 := { stood := { row := oldTellsUptoRow, standIns := [], harness := (true, "eab3dff6dfce3d586ec8056796edb22d5f362f2567ac5413cd855ddef9b149d2"), looks := true }, kinds := [], alts := [], laidByText := true, laidKinds := [.handle], laidTests := true, laidLooks := .later }
def OldTellsUptoCardSaid : Prop := Claim7.holds Tryz.pinned (.plain (OpenSpec.upto oldTellsSpec)) oldTellsUptoCard

/-- THE SECOND FORM's CARD OF 'vaultlaw4.OldSizes'. -/
def oldSizesUptoCard : Claim7 := { stood := { row := oldSizesUptoRow, standIns := [], harness := (true, "eab3dff6dfce3d586ec8056796edb22d5f362f2567ac5413cd855ddef9b149d2"), looks := true }, kinds := [], alts := [], laidByText := true, laidKinds := [.handle], laidTests := true, laidLooks := .later }
def OldSizesUptoCardSaid : Prop := Claim7.holds Tryz.pinned (.plain (OpenSpec.upto oldSizesSpec)) oldSizesUptoCard

/-- THE SECOND FORM's CARD OF 'vaultlaw2.MergeTells'. -/
def mergeTellsUptoCard : Claim7 := { stood := { row := mergeTellsUptoRow, standIns := [], harness := (true, "eab3dff6dfce3d586ec8056796edb22d5f362f2567ac5413cd855ddef9b149d2"), looks := true }, kinds := [], alts := [], laidByText := true, laidKinds := [.handle], laidTests := true, laidLooks := .later }
def MergeTellsUptoCardSaid : Prop := Claim7.holds Tryz.pinned (.plain (OpenSpec.upto mergeTellsSpec)) mergeTellsUptoCard
end Rows
end Go.Proofs.YtcahgmnkphmnhaaGreatDoor
