/-
  DERIVED. GIVEN WITH THE SEED: THE CARDS: each row of YtbnobjlphmkgeaaGreatDoorRows.lean that lists a variable, with what it lists TIED to the program's text (the seventh form; the later family's looks); each row that meets fmt, with fmt's text TOLD by the authors' own Lean function (tested against real Go, not proved from fmt's source: count such statements apart). THE CARD IS WHAT COUNTS. Prove the row's statement (the work); the ties are given (YtbnobjlphmkgeaaGreatDoorTie.lean); close each card by the builder's one call (the guide's Derived/Test/ToyasCard.lean, 'card_holds'). Laid BY PROGRAM, IN A SANDBOX (cutbox-door.mjs). By AI agents, Wed Nov 11 2026. No macro, syntax, notation, axiom, sorry.
-/
import Derived.Test.YtbnobjlphmkgeaaGreatDoorRows
import GoSem.ClaimSeven
namespace Go.Proofs.YtbnobjlphmkgeaaGreatDoor
namespace Rows

/-- THE TIED CARD OF 'vaultlaw2.HeapPlays'. -/
def heapPlaysCard : Claim7 := { stood := { row := heapPlaysRow, standIns := [], harness := (true, "db67678fd6643dc41e120dd8fa9b2208891a049cc100efdef3ada4691b7f1bb0"), looks := true }, kinds := [], alts := [], laidByText := true, laidKinds := [.handle], laidTests := true, laidLooks := .later }
def HeapPlaysCardSaid : Prop := Claim7.holds Tryz.pinned (.plain (OpenSpec.ofChange heapPlaysSpec)) heapPlaysCard

/-- THE TIED CARD OF 'vaulttop.TopPages'. -/
def topPagesCard : Claim7 := { stood := { row := topPagesRow, standIns := [], harness := (true, "db67678fd6643dc41e120dd8fa9b2208891a049cc100efdef3ada4691b7f1bb0"), looks := true }, kinds := [], alts := [], laidByText := true, laidKinds := [.handle], laidTests := true, laidLooks := .later }
def TopPagesCardSaid : Prop := Claim7.holds Tryz.pinned (.plain (OpenSpec.ofChange topPagesSpec)) topPagesCard

/-- THE TIED CARD OF 'vaultlaw2.MergeTells'. -/
def mergeTellsCard : Claim7 := { stood := { row := mergeTellsRow, standIns := [], harness := (true, "db67678fd6643dc41e120dd8fa9b2208891a049cc100efdef3ada4691b7f1bb0"), looks := true }, kinds := [], alts := [], laidByText := true, laidKinds := [.handle], laidTests := true, laidLooks := .later }
def MergeTellsCardSaid : Prop := Claim7.holds Tryz.pinned (.plain (OpenSpec.ofChange mergeTellsSpec)) mergeTellsCard

/-- THE TIED CARD OF 'vaultlaw2.OldTells'. -/
def oldTellsCard : Claim7 := { stood := { row := oldTellsRow, standIns := [], harness := (true, "db67678fd6643dc41e120dd8fa9b2208891a049cc100efdef3ada4691b7f1bb0"), looks := true }, kinds := [], alts := [], laidByText := true, laidKinds := [.handle], laidTests := true, laidLooks := .later }
def OldTellsCardSaid : Prop := Claim7.holds Tryz.pinned (.plain (OpenSpec.ofChange oldTellsSpec)) oldTellsCard

/-- THE SECOND FORM's CARD OF 'vaultlaw2.HeapPlays'. -/
def heapPlaysUptoCard : Claim7 := { stood := { row := heapPlaysUptoRow, standIns := [], harness := (true, "db67678fd6643dc41e120dd8fa9b2208891a049cc100efdef3ada4691b7f1bb0"), looks := true }, kinds := [], alts := [], laidByText := true, laidKinds := [.handle], laidTests := true, laidLooks := .later }
def HeapPlaysUptoCardSaid : Prop := Claim7.holds Tryz.pinned (.plain (OpenSpec.upto heapPlaysSpec)) heapPlaysUptoCard

/-- THE SECOND FORM's CARD OF 'vaulttop.TopPages'. -/
def topPagesUptoCard : Claim7 := { stood := { row := topPagesUptoRow, standIns := [], harness := (true, "db67678fd6643dc41e120dd8fa9b2208891a049cc100efdef3ada4691b7f1bb0"), looks := true }, kinds := [], alts := [], laidByText := true, laidKinds := [.handle], laidTests := true, laidLooks := .later }
def TopPagesUptoCardSaid : Prop := Claim7.holds Tryz.pinned (.plain (OpenSpec.upto topPagesSpec)) topPagesUptoCard

/-- THE SECOND FORM's CARD OF 'vaultlaw2.MergeTells'. -/
def mergeTellsUptoCard : Claim7 := { stood := { row := mergeTellsUptoRow, standIns := [], harness := (true, "db67678fd6643dc41e120dd8fa9b2208891a049cc100efdef3ada4691b7f1bb0"), looks := true }, kinds := [], alts := [], laidByText := true, laidKinds := [.handle], laidTests := true, laidLooks := .later }
def MergeTellsUptoCardSaid : Prop := Claim7.holds Tryz.pinned (.plain (OpenSpec.upto mergeTellsSpec)) mergeTellsUptoCard

/-- THE SECOND FORM's CARD OF 'vaultlaw2.OldTells'. -/
def oldTellsUptoCard : Claim7 := { stood := { row := oldTellsUptoRow, standIns := [], harness := (true, "db67678fd6643dc41e120dd8fa9b2208891a049cc100efdef3ada4691b7f1bb0"), looks := true }, kinds := [], alts := [], laidByText := true, laidKinds := [.handle], laidTests := true, laidLooks := .later }
def OldTellsUptoCardSaid : Prop := Claim7.holds Tryz.pinned (.plain (OpenSpec.upto oldTellsSpec)) oldTellsUptoCard
end Rows
end Go.Proofs.YtbnobjlphmkgeaaGreatDoor
