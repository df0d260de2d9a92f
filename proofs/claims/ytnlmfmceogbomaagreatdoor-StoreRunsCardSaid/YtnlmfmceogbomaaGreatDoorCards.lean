/-
  DERIVED. GIVEN WITH THE SEED: THE CARDS: each row of YtnlmfmceogbomaaGreatDoorRows.lean that lists a variable, with what it lists TIED to the program's text (the seventh form; the later family's looks); each row that meets fmt, with fmt's text TOLD by the authors' own Lean function (tested against real Go, not proved from fmt's source: count such statements apart). THE CARD IS WHAT COUNTS. Prove the row's statement (the work); the ties are given (YtnlmfmceogbomaaGreatDoorTie.lean); close each card by the builder's one call (the guide's Derived/Test/ToyasCard.lean, 'card_holds'). Laid BY PROGRAM, IN A SANDBOX (cutbox-door.mjs). By AI agents, Wed Nov 11 2026. No macro, syntax, notation, axiom, sorry.
-/
import Derived.Test.YtnlmfmceogbomaaGreatDoorRows
import GoSem.ClaimSeven
namespace Go.Proofs.YtnlmfmceogbomaaGreatDoor
namespace Rows

/-- THE TIED CARD OF 'aquiferlaw10.StoreKeeps'. -/
def storeKeepsCard : Claim7 := { stood := { row := storeKeepsRow, standIns := [], harness := (true, "f5fefd8df4556fe0cdf17f5d70b9161d958f70972c13ee5677fe41cf4aef7741"), looks := false }, kinds := [], alts := [], laidByText := true, laidKinds := [.data, .data, .data], laidTests := true, laidLooks := .later }
def StoreKeepsCardSaid : Prop := Claim7.holds Tryz.pinned (.plain (OpenSpec.ofChange storeKeepsSpec)) storeKeepsCard

/-- THE TIED CARD OF 'aquiferlaw10.StoreAgain'. -/
def storeAgainCard : Claim7 := { stood := { row := storeAgainRow, standIns := [], harness := (true, "f5fefd8df4556fe0cdf17f5d70b9161d958f70972c13ee5677fe41cf4aef7741"), looks := false }, kinds := [], alts := [], laidByText := true, laidKinds := [.data, .data, .data], laidTests := true, laidLooks := .later }
def StoreAgainCardSaid : Prop := Claim7.holds Tryz.pinned (.plain (OpenSpec.ofChange storeAgainSpec)) storeAgainCard

/-- THE TIED CARD OF 'aquiferlaw10.StoreRoom'. -/
def storeRoomCard : Claim7 := { stood := { row := storeRoomRow, standIns := [], harness := (true, "f5fefd8df4556fe0cdf17f5d70b9161d958f70972c13ee5677fe41cf4aef7741"), looks := false }, kinds := [], alts := [], laidByText := true, laidKinds := [.data, .data, .data], laidTests := true, laidLooks := .later }
def StoreRoomCardSaid : Prop := Claim7.holds Tryz.pinned (.plain (OpenSpec.ofChange storeRoomSpec)) storeRoomCard

/-- THE TIED CARD OF 'aquiferlaw10.StoreKeys'. -/
def storeKeysCard : Claim7 := { stood := { row := storeKeysRow, standIns := [], harness := (true, "f5fefd8df4556fe0cdf17f5d70b9161d958f70972c13ee5677fe41cf4aef7741"), looks := false }, kinds := [], alts := [], laidByText := true, laidKinds := [.data, .data, .data], laidTests := true, laidLooks := .later }
def StoreKeysCardSaid : Prop := Claim7.holds Tryz.pinned (.plain (OpenSpec.ofChange storeKeysSpec)) storeKeysCard

/-- THE TIED CARD OF 'aquiferlaw10.StorePoints'. -/
def storePointsCard : Claim7 := { stood := { row := storePointsRow, standIns := [], harness := (true, "f5fefd8df4556fe0cdf17f5d70b9161d958f70972c13ee5677fe41cf4aef7741"), looks := false }, kinds := [], alts := [], laidByText := true, laidKinds := [.data, .data, .data], laidTests := true, laidLooks := .later }
def StorePointsCardSaid : Prop := Claim7.holds Tryz.pinned (.plain (OpenSpec.ofChange storePointsSpec)) storePointsCard

/-- THE TIED CARD OF 'aquiferlaw10.StoreOld'. -/
def storeOldCard : Claim7 := { stood := { row := storeOldRow, standIns := [], harness := (true, "f5fefd8df4556fe0cdf17f5d70b9161d958f70972c13ee5677fe41cf4aef7741"), looks := false }, kinds := [], alts := [], laidByText := true, laidKinds := [.data, .data, .data], laidTests := true, laidLooks := .later }
def StoreOldCardSaid : Prop := Claim7.holds Tryz.pinned (.plain (OpenSpec.ofChange storeOldSpec)) storeOldCard

/-- THE TIED CARD OF 'aquiferlaw10.StoreNil'. -/
def storeNilCard : Claim7 := { stood := { row := storeNilRow, standIns := [], harness := (true, "f5fefd8df4556fe0cdf17f5d70b9161d958f70972c13ee5677fe41cf4aef7741"), looks := false }, kinds := [], alts := [], laidByText := true, laidKinds := [.data, .data, .data], laidTests := true, laidLooks := .later }
def StoreNilCardSaid : Prop := Claim7.holds Tryz.pinned (.plain (OpenSpec.ofChange storeNilSpec)) storeNilCard

/-- THE TIED CARD OF 'aquiferlaw10.StoreRuns'. -/
def storeRunsCard : Claim7 := { stood := { row := storeRunsRow, standIns := [], harness := (true, "f5fefd8df4556fe0cdf17f5d70b9161d958f70972c13ee5677fe41cf4aef7741"), looks := false }, kinds := [], alts := [], laidByText := true, laidKinds := [.data, .data, .data], laidTests := true, laidLooks := .later }
def StoreRunsCardSaid : Prop := Claim7.holds Tryz.pinned (.plain (OpenSpec.ofChange storeRunsSpec)) storeRunsCard

/-- THE SECOND FORM's CARD OF 'aquiferlaw10.StoreKeeps'. -/
def storeKeepsUptoCard : Claim7 := { stood := { row := storeKeepsUptoRow, standIns := [], harness := (true, "f5fefd8df4556fe0cdf17f5d70b9161d958f70972c13ee5677fe41cf4aef7741"), looks := false }, kinds := [], alts := [], laidByText := true, laidKinds := [.data, .data, .data], laidTests := true, laidLooks := .later }
def StoreKeepsUptoCardSaid : Prop := Claim7.holds Tryz.pinned (.plain (OpenSpec.upto storeKeepsSpec)) storeKeepsUptoCard

/-- THE SECOND FORM's CARD OF 'aquiferlaw10.StoreAgain'. -/
def storeAgainUptoCard : Claim7 := { stood := { row := storeAgainUptoRow, standIns := [], harness := (true, "f5fefd8df4556fe0cdf17f5d70b9161d958f70972c13ee5677fe41cf4aef7741"), looks := false }, kinds := [], alts := [], laidByText := true, laidKinds := [.data, .data, .data], laidTests := true, laidLooks := .later }
def StoreAgainUptoCardSaid : Prop := Claim7.holds Tryz.pinned (.plain (OpenSpec.upto storeAgainSpec)) storeAgainUptoCard

/-- THE SECOND FORM's CARD OF 'aquiferlaw10.StoreRoom'. -/
def storeRoomUptoCard : Claim7 := { stood := { row := storeRoomUptoRow, standIns := [], harness := (true, "f5fefd8df4556fe0cdf17f5d70b9161d958f70972c13ee5677fe41cf4aef7741"), looks := false }, kinds := [], alts := [], laidByText := true, laidKinds := [.data, .data, .data], laidTests := true, laidLooks := .later }
def StoreRoomUptoCardSaid : Prop := Claim7.holds Tryz.pinned (.plain (OpenSpec.upto storeRoomSpec)) storeRoomUptoCard

/-- THE SECOND FORM's CARD OF 'aquiferlaw10.StoreKeys'. -/
def storeKeysUptoCard : Claim7 := { stood := { row := storeKeysUptoRow, standIns := [], harness := (true, "f5fefd8df4556fe0cdf17f5d70b9161d958f70972c13ee5677fe41cf4aef7741"), looks := false }, kinds := [], alts := [], laidByText := true, laidKinds := [.data, .data, .data], laidTests := true, laidLooks := .later }
def StoreKeysUptoCardSaid : Prop := Claim7.holds Tryz.pinned (.plain (OpenSpec.upto storeKeysSpec)) storeKeysUptoCard

/-- THE SECOND FORM's CARD OF 'aquiferlaw10.StorePoints'. -/
def storePointsUptoCard : Claim7 := { stood := { row := storePointsUptoRow, standIns := [], harness := (true, "f5fefd8df4556fe0cdf17f5d70b9161d958f70972c13ee5677fe41cf4aef7741"), looks := false }, kinds := [], alts := [], laidByText := true, laidKinds := [.data, .data, .data], laidTests := true, laidLooks := .later }
def StorePointsUptoCardSaid : Prop := Claim7.holds Tryz.pinned (.plain (OpenSpec.upto storePointsSpec)) storePointsUptoCard

/-- THE SECOND FORM's CARD OF 'aquiferlaw10.StoreOld'. -/
def storeOldUptoCard : Claim7 := { stood := { row := storeOldUptoRow, standIns := [], harness := (true, "f5fefd8df4556fe0cdf17f5d70b9161d958f70972c13ee5677fe41cf4aef7741"), looks := false }, kinds := [], alts := [], laidByText := true, laidKinds := [.data, .data, .data], laidTests := true, laidLooks := .later }
def StoreOldUptoCardSaid : Prop := Claim7.holds Tryz.pinned (.plain (OpenSpec.upto storeOldSpec)) storeOldUptoCard

/-- THE SECOND FORM's CARD OF 'aquiferlaw10.StoreNil'. -/
def storeNilUptoCard : Claim7 := { stood := { row := storeNilUptoRow, standIns := [], harness := (true, "f5fefd8df4556fe0cdf17f5d70b9161d958f70972c13ee5677fe41cf4aef7741"), looks := false }, kinds := [], alts := [], laidByText := true, laidKinds := [.data, .data, .data], laidTests := true, laidLooks := .later }
def StoreNilUptoCardSaid : Prop := Claim7.holds Tryz.pinned (.plain (OpenSpec.upto storeNilSpec)) storeNilUptoCard

/-- THE SECOND FORM's CARD OF 'aquiferlaw10.StoreRuns'. -/
def storeRunsUptoCard : Claim7 := { stood := { row := storeRunsUptoRow, standIns := [], harness := (true, "f5fefd8df4556fe0cdf17f5d70b9161d958f70972c13ee5677fe41cf4aef7741"), looks := false }, kinds := [], alts := [], laidByText := true, laidKinds := [.data, .data, .data], laidTests := true, laidLooks := .later }
def StoreRunsUptoCardSaid : Prop := Claim7.holds Tryz.pinned (.plain (OpenSpec.upto storeRunsSpec)) storeRunsUptoCard
end Rows
end Go.Proofs.YtnlmfmceogbomaaGreatDoor
