/-
  DERIVED. GIVEN WITH THE SEED: THE CARDS: each row of YthlflklamgdkfaaDoorRows.lean that lists a variable, with what it lists TIED to the program's text (the seventh form; the later family's looks); each row that meets fmt, with fmt's text TOLD by the authors' own Lean function (tested against real Go, not proved from fmt's source: count such statements apart). THE CARD IS WHAT COUNTS. Prove the row's statement (the work); the ties are given (YthlflklamgdkfaaDoorTie.lean); close each card by the builder's one call (the guide's Derived/Test/ToyasCard.lean, 'card_holds'). Laid BY PROGRAM, IN A SANDBOX (cutbox-door.mjs). By AI agents, Wed Nov 11 2026. No macro, syntax, notation, axiom, sorry.
-/
import Derived.Test.YthlflklamgdkfaaDoorRows
import GoSem.ClaimSeven
namespace Go.Proofs.YthlflklamgdkfaaDoor
namespace Rows

/-- THE TIED CARD OF 'vaultlaw1.CheckTells'. -/
def checkTellsCard : Claim7 := { stood := { row := checkTellsRow, standIns := [], harness := (true, "91f60ecb67f33b7f9930b4fe40be7fb1b9080e257c822cac2370431fc8b5fca8"), looks := true }, kinds := [], alts := [], laidByText := true, laidKinds := [.handle], laidTests := true, laidLooks := .later }
def CheckTellsCardSaid : Prop := Claim7.holds Tryd.pinned (.plain (OpenSpec.ofChange checkTellsSpec)) checkTellsCard

/-- THE TIED CARD OF 'vaultlaw1.ExtentTells'. -/
def extentTellsCard : Claim7 := { stood := { row := extentTellsRow, standIns := [], harness := (true, "91f60ecb67f33b7f9930b4fe40be7fb1b9080e257c822cac2370431fc8b5fca8"), looks := true }, kinds := [], alts := [], laidByText := true, laidKinds := [.handle], laidTests := true, laidLooks := .later }
def ExtentTellsCardSaid : Prop := Claim7.holds Tryd.pinned (.plain (OpenSpec.ofChange extentTellsSpec)) extentTellsCard

/-- THE TIED CARD OF 'vaultlaw4.HeapFull'. -/
def heapFullCard : Claim7 := { stood := { row := heapFullRow, standIns := [], harness := (true, "91f60ecb67f33b7f9930b4fe40be7fb1b9080e257c822cac2370431fc8b5fca8"), looks := true }, kinds := [], alts := [], laidByText := true, laidKinds := [.handle], laidTests := true, laidLooks := .later }
def HeapFullCardSaid : Prop := Claim7.holds Tryd.pinned (.plain (OpenSpec.ofChange heapFullSpec)) heapFullCard

/-- THE TIED CARD OF 'vaultlaw2.RootTells'. -/
def rootTellsCard : Claim7 := { stood := { row := rootTellsRow, standIns := [], harness := (true, "91f60ecb67f33b7f9930b4fe40be7fb1b9080e257c822cac2370431fc8b5fca8"), looks := true }, kinds := [], alts := [], laidByText := true, laidKinds := [.handle], laidTests := true, laidLooks := .later }
def RootTellsCardSaid : Prop := Claim7.holds Tryd.pinned (.plain (OpenSpec.ofChange rootTellsSpec)) rootTellsCard

/-- THE TIED CARD OF 'vaultlaw4.RootFull'. -/
def rootFullCard : Claim7 := { stood := { row := rootFullRow, standIns := [], harness := (true, "91f60ecb67f33b7f9930b4fe40be7fb1b9080e257c822cac2370431fc8b5fca8"), looks := true }, kinds := [], alts := [], laidByText := true, laidKinds := [.handle], laidTests := true, laidLooks := .later }
def RootFullCardSaid : Prop := Claim7.holds Tryd.pinned (.plain (OpenSpec.ofChange rootFullSpec)) rootFullCard

/-- THE TIED CARD OF 'vaultlaw1.DevicePlays'. -/
def devicePlaysCard : Claim7 := { stood := { row := devicePlaysRow, standIns := [], harness := (true, "91f60ecb67f33b7f9930b4fe40be7fb1b9080e257c822cac2370431fc8b5fca8"), looks := true }, kinds := [], alts := [], laidByText := true, laidKinds := [.handle], laidTests := true, laidLooks := .later }
def DevicePlaysCardSaid : Prop := Claim7.holds Tryd.pinned (.plain (OpenSpec.ofChange devicePlaysSpec)) devicePlaysCard

/-- THE TIED CARD OF 'vaultlaw4.PagesRow'. -/
def pagesRowCard : Claim7 := { stood := { row := pagesRowRow, standIns := [], harness := (true, "91f60ecb67f33b7f9930b4fe40be7fb1b9080e257c822cac2370431fc8b5fca8"), looks := true }, kinds := [], alts := [], laidByText := true, laidKinds := [.handle], laidTests := true, laidLooks := .later }
def PagesRowCardSaid : Prop := Claim7.holds Tryd.pinned (.plain (OpenSpec.ofChange pagesRowSpec)) pagesRowCard

/-- THE TIED CARD OF 'vaultlaw1.PagesPlays'. -/
def pagesPlaysCard : Claim7 := { stood := { row := pagesPlaysRow, standIns := [], harness := (true, "91f60ecb67f33b7f9930b4fe40be7fb1b9080e257c822cac2370431fc8b5fca8"), looks := true }, kinds := [], alts := [], laidByText := true, laidKinds := [.handle], laidTests := true, laidLooks := .later }
def PagesPlaysCardSaid : Prop := Claim7.holds Tryd.pinned (.plain (OpenSpec.ofChange pagesPlaysSpec)) pagesPlaysCard

/-- THE TIED CARD OF 'vaultlaw1.DiffTells'. -/
def diffTellsCard : Claim7 := { stood := { row := diffTellsRow, standIns := [], harness := (true, "91f60ecb67f33b7f9930b4fe40be7fb1b9080e257c822cac2370431fc8b5fca8"), looks := true }, kinds := [], alts := [], laidByText := true, laidKinds := [.handle], laidTests := true, laidLooks := .later }
def DiffTellsCardSaid : Prop := Claim7.holds Tryd.pinned (.plain (OpenSpec.ofChange diffTellsSpec)) diffTellsCard

/-- THE TIED CARD OF 'vaultlaw1.PagesSafe'. -/
def pagesSafeCard : Claim7 := { stood := { row := pagesSafeRow, standIns := [], harness := (true, "91f60ecb67f33b7f9930b4fe40be7fb1b9080e257c822cac2370431fc8b5fca8"), looks := true }, kinds := [], alts := [], laidByText := true, laidKinds := [.handle], laidTests := true, laidLooks := .later }
def PagesSafeCardSaid : Prop := Claim7.holds Tryd.pinned (.plain (OpenSpec.ofChange pagesSafeSpec)) pagesSafeCard

/-- THE SECOND FORM's CARD OF 'vaultlaw1.CheckTells'. -/
def checkTellsUptoCard : Claim7 := { stood := { row := checkTellsUptoRow, standIns := [], harness := (true, "91f60ecb67f33b7f9930b4fe40be7fb1b9080e257c822cac2370431fc8b5fca8"), looks := true }, kinds := [], alts := [], laidByText := true, laidKinds := [.handle], laidTests := true, laidLooks := .later }
def CheckTellsUptoCardSaid : Prop := Claim7.holds Tryd.pinned (.plain (OpenSpec.upto checkTellsSpec)) checkTellsUptoCard

/-- THE SECOND FORM's CARD OF 'vaultlaw1.ExtentTells'. -/
def extentTellsUptoCard : Claim7 := { stood := { row := extentTellsUptoRow, standIns := [], harness := (true, "91f60ecb67f33b7f9930b4fe40be7fb1b9080e257c822cac2370431fc8b5fca8"), looks := true }, kinds := [], alts := [], laidByText := true, laidKinds := [.handle], laidTests := true, laidLooks := .later }
def ExtentTellsUptoCardSaid : Prop := Claim7.holds Tryd.pinned (.plain (OpenSpec.upto extentTellsSpec)) extentTellsUptoCard

/-- THE SECOND FORM's CARD OF 'vaultlaw4.HeapFull'. -/
def heapFullUptoCard : Claim7 := { stood := { row := heapFullUptoRow, standIns := [], harness := (true, "91f60ecb67f33b7f9930b4fe40be7fb1b9080e257c822cac2370431fc8b5fca8"), looks := true }, kinds := [], alts := [], laidByText := true, laidKinds := [.handle], laidTests := true, laidLooks := .later }
def HeapFullUptoCardSaid : Prop := Claim7.holds Tryd.pinned (.plain (OpenSpec.upto heapFullSpec)) heapFullUptoCard

/-- THE SECOND FORM's CARD OF 'vaultlaw2.RootTells'. -/
def rootTellsUptoCard : Claim7 := { stood := { row := rootTellsUptoRow, standIns := [], harness := (true, "91f60ecb67f33b7f9930b4fe40be7fb1b9080e257c822cac2370431fc8b5fca8"), looks := true }, kinds := [], alts := [], laidByText := true, laidKinds := [.handle], laidTests := true, laidLooks := .later }
def RootTellsUptoCardSaid : Prop := Claim7.holds Tryd.pinned (.plain (OpenSpec.upto rootTellsSpec)) rootTellsUptoCard

/-- THE SECOND FORM's CARD OF 'vaultlaw4.RootFull'. -/
def rootFullUptoCard : Claim7 := { stood := { row := rootFullUptoRow, standIns := [], harness := (true, "91f60ecb67f33b7f9930b4fe40be7fb1b9080e257c822cac2370431fc8b5fca8"), looks := true }, kinds := [], alts := [], laidByText := true, laidKinds := [.handle], laidTests := true, laidLooks := .later }
def RootFullUptoCardSaid : Prop := Claim7.holds Tryd.pinned (.plain (OpenSpec.upto rootFullSpec)) rootFullUptoCard

/-- THE SECOND FORM's CARD OF 'vaultlaw1.DevicePlays'. -/
def devicePlaysUptoCard : Claim7 := { stood := { row := devicePlaysUptoRow, standIns := [], harness := (true, "91f60ecb67f33b7f9930b4fe40be7fb1b9080e257c822cac2370431fc8b5fca8"), looks := true }, kinds := [], alts := [], laidByText := true, laidKinds := [.handle], laidTests := true, laidLooks := .later }
def DevicePlaysUptoCardSaid : Prop := Claim7.holds Tryd.pinned (.plain (OpenSpec.upto devicePlaysSpec)) devicePlaysUptoCard

/-- THE SECOND FORM's CARD OF 'vaultlaw4.PagesRow'. -/
def pagesRowUptoCard : Claim7 := { stood := { row := pagesRowUptoRow, standIns := [], harness := (true, "91f60ecb67f33b7f9930b4fe40be7fb1b9080e257c822cac2370431fc8b5fca8"), looks := true }, kinds := [], alts := [], laidByText := true, laidKinds := [.handle], laidTests := true, laidLooks := .later }
def PagesRowUptoCardSaid : Prop := Claim7.holds Tryd.pinned (.plain (OpenSpec.upto pagesRowSpec)) pagesRowUptoCard

/-- THE SECOND FORM's CARD OF 'vaultlaw1.PagesPlays'. -/
def pagesPlaysUptoCard : Claim7 := { stood := { row := pagesPlaysUptoRow, standIns := [], harness := (true, "91f60ecb67f33b7f9930b4fe40be7fb1b9080e257c822cac2370431fc8b5fca8"), looks := true }, kinds := [], alts := [], laidByText := true, laidKinds := [.handle], laidTests := true, laidLooks := .later }
def PagesPlaysUptoCardSaid : Prop := Claim7.holds Tryd.pinned (.plain (OpenSpec.upto pagesPlaysSpec)) pagesPlaysUptoCard

/-- THE SECOND FORM's CARD OF 'vaultlaw1.DiffTells'. -/
def diffTellsUptoCard : Claim7 := { stood := { row := diffTellsUptoRow, standIns := [], harness := (true, "91f60ecb67f33b7f9930b4fe40be7fb1b9080e257c822cac2370431fc8b5fca8"), looks := true }, kinds := [], alts := [], laidByText := true, laidKinds := [.handle], laidTests := true, laidLooks := .later }
def DiffTellsUptoCardSaid : Prop := Claim7.holds Tryd.pinned (.plain (OpenSpec.upto diffTellsSpec)) diffTellsUptoCard

/-- THE SECOND FORM's CARD OF 'vaultlaw1.PagesSafe'. -/
def pagesSafeUptoCard : Claim7 := { stood := { row := pagesSafeUptoRow, standIns := [], harness := (true, "91f60ecb67f33b7f9930b4fe40be7fb1b9080e257c822cac2370431fc8b5fca8"), looks := true }, kinds := [], alts := [], laidByText := true, laidKinds := [.handle], laidTests := true, laidLooks := .later }
def PagesSafeUptoCardSaid : Prop := Claim7.holds Tryd.pinned (.plain (OpenSpec.upto pagesSafeSpec)) pagesSafeUptoCard
end Rows
end Go.Proofs.YthlflklamgdkfaaDoor
