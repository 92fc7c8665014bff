/-
  DERIVED. GIVEN WITH THE SEED: THE CARDS: each row of YtoieifphklodoaaGreatDoorRows.lean that lists a variable, with what it lists TIED to the program's text (the seventh form; the later family's looks); each row that meets fmt, with fmt's text TOLD by the authors' own Lean function (tested against real Go, not proved from fmt's source: count such statements apart). THE CARD IS WHAT COUNTS. Prove the row's statement (the work); the ties are given (YtoieifphklodoaaGreatDoorTie.lean); close each card by the builder's one call (the guide's Derived/Test/ToyasCard.lean, 'card_holds'). Laid BY PROGRAM, IN A SANDBOX (cutbox-door.mjs). By AI agents, Wed Nov 11 2026. No macro, syntax, notation, axiom, sorry.
-/
import Derived.Test.YtoieifphklodoaaGreatDoorRows
import GoSem.ClaimSeven
namespace Go.Proofs.YtoieifphklodoaaGreatDoor
namespace Rows

/-- THE TIED CARD OF 'vaulttop.TopPages'. -/
def topPagesCard : Claim7 := { stood := { row := topPagesRow, standIns := [], harness := (true, "5a8d663a6620115cb613385fb3855154410263d8685e17f943b73fb1bd161afc"), looks := true }, kinds := [], alts := [], laidByText := true, laidKinds := [.handle], laidTests := true, laidLooks := .later }
def TopPagesCardSaid : Prop := Claim7.holds Tryz.pinned (.plain (OpenSpec.ofChange topPagesSpec)) topPagesCard

/-- THE TIED CARD OF 'vaultlaw2.HeapPlays'. -/
def heapPlaysCard : Claim7 := { stood := { row := heapPlaysRow, standIns := [], harness := (true, "5a8d663a6620115cb613385fb3855154410263d8685e17f943b73fb1bd161afc"), looks := true }, kinds := [], alts := [], laidByText := true, laidKinds := [.handle], laidTests := true, laidLooks := .later }
def HeapPlaysCardSaid : Prop := Claim7.holds Tryz.pinned (.plain (OpenSpec.ofChange heapPlaysSpec)) heapPlaysCard

/-- THE TIED CARD OF 'vaultlaw3.PlayDoes'. -/
def playDoesCard : Claim7 := { stood := { row := playDoesRow, standIns := [], harness := (true, "5a8d663a6620115cb613385fb3855154410263d8685e17f943b73fb1bd161afc"), looks := true }, kinds := [], alts := [], laidByText := true, laidKinds := [.handle], laidTests := true, laidLooks := .later }
def PlayDoesCardSaid : Prop := Claim7.holds Tryz.pinned (.plain (OpenSpec.ofChange playDoesSpec)) playDoesCard

/-- THE TIED CARD OF 'vaultlaw3.StoreKeeps'. -/
def storeKeepsCard : Claim7 := { stood := { row := storeKeepsRow, standIns := [], harness := (true, "5a8d663a6620115cb613385fb3855154410263d8685e17f943b73fb1bd161afc"), looks := true }, kinds := [], alts := [], laidByText := true, laidKinds := [.handle], laidTests := true, laidLooks := .later }
def StoreKeepsCardSaid : Prop := Claim7.holds Tryz.pinned (.plain (OpenSpec.ofChange storeKeepsSpec)) storeKeepsCard

/-- THE TIED CARD OF 'vaultlaw3.PlayTells'. -/
def playTellsCard : Claim7 := { stood := { row := playTellsRow, standIns := [], harness := (true, "5a8d663a6620115cb613385fb3855154410263d8685e17f943b73fb1bd161afc"), looks := true }, kinds := [], alts := [], laidByText := true, laidKinds := [.handle], laidTests := true, laidLooks := .later }
def PlayTellsCardSaid : Prop := Claim7.holds Tryz.pinned (.plain (OpenSpec.ofChange playTellsSpec)) playTellsCard

/-- THE SECOND FORM's CARD OF 'vaulttop.TopPages'. -/
def topPagesUptoCard : Claim7 := { stood := { row := topPagesUptoRow, standIns := [], harness := (true, "5a8d663a6620115cb613385fb3855154410263d8685e17f943b73fb1bd161afc"), looks := true }, kinds := [], alts := [], laidByText := true, laidKinds := [.handle], laidTests := true, laidLooks := .later }
def TopPagesUptoCardSaid : Prop := Claim7.holds Tryz.pinned (.plain (OpenSpec.upto topPagesSpec)) topPagesUptoCard

/-- THE SECOND FORM's CARD OF 'vaultlaw2.HeapPlays'. -/
def heapPlaysUptoCard : Claim7 := { stood := { row := heapPlaysUptoRow, standIns := [], harness := (true, "5a8d663a6620115cb613385fb3855154410263d8685e17f943b73fb1bd161afc"), looks := true }, kinds := [], alts := [], laidByText := true, laidKinds := [.handle], laidTests := true, laidLooks := .later }
def HeapPlaysUptoCardSaid : Prop := Claim7.holds Tryz.pinned (.plain (OpenSpec.upto heapPlaysSpec)) heapPlaysUptoCard

/-- THE SECOND FORM's CARD OF 'vaultlaw3.PlayDoes'. -/
def playDoesUptoCard : Claim7 := { stood := { row := playDoesUptoRow, standIns := [], harness := (true, "5a8d663a6620115cb613385fb3855154410263d8685e17f943b73fb1bd161afc"), looks := true }, kinds := [], alts := [], laidByText := true, laidKinds := [.handle], laidTests := true, laidLooks := .later }
def PlayDoesUptoCardSaid : Prop := Claim7.holds Tryz.pinned (.plain (OpenSpec.upto playDoesSpec)) playDoesUptoCard

/-- THE SECOND FORM's CARD OF 'vaultlaw3.StoreKeeps'. -/
def storeKeepsUptoCard : Claim7 := { stood := { row := storeKeepsUptoRow, standIns := [], harness := (true, "5a8d663a6620115cb613385fb3855154410263d8685e17f943b73fb1bd161afc"), looks := true }, kinds := [], alts := [], laidByText := true, laidKinds := [.handle], laidTests := true, laidLooks := .later }
def StoreKeepsUptoCardSaid : Prop := Claim7.holds Tryz.pinned (.plain (OpenSpec.upto storeKeepsSpec)) storeKeepsUptoCard

/-- THE SECOND FORM's CARD OF 'vaultlaw3.PlayTells'. -/
def playTellsUptoCard : Claim7 := { stood := { row := playTellsUptoRow, standIns := [], harness := (true, "5a8d663a6620115cb613385fb3855154410263d8685e17f943b73fb1bd161afc"), looks := true }, kinds := [], alts := [], laidByText := true, laidKinds := [.handle], laidTests := true, laidLooks := .later }
def PlayTellsUptoCardSaid : Prop := Claim7.holds Tryz.pinned (.plain (OpenSpec.upto playTellsSpec)) playTellsUptoCard
end Rows
end Go.Proofs.YtoieifphklodoaaGreatDoor
