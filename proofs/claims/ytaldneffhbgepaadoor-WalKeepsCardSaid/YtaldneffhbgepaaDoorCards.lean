/-
  DERIVED. GIVEN WITH THE SEED: THE CARDS: each row of YtaldneffhbgepaaDoorRows.lean that lists a variable, with what it lists TIED to the program's text (the seventh form; the later family's looks); each row that meets fmt, with fmt's text TOLD by the authors' own Lean function (tested against real Go, not proved from fmt's source: count such statements apart). THE CARD IS WHAT COUNTS. Prove the row's statement (the work); the ties are given (YtaldneffhbgepaaDoorTie.lean); close each card by the builder's one call (the guide's Derived/Test/ToyasCard.lean, 'card_holds'). Laid BY PROGRAM, IN A SANDBOX (cutbox-door.mjs). By AI agents, Wed Nov 11 2026. No macro, syntax, notation, axiom, sorry.
-/
import Derived.Test.YtaldneffhbgepaaDoorRows
import GoSem.ClaimSeven
namespace Go.Proofs.YtaldneffhbgepaaDoor
namespace Rows

/-- THE TIED CARD OF 'aquiferlaw5.BatchAll'. -/
def batchAllCard : Claim7 := { stood := { row := batchAllRow, standIns := [], harness := (true, "ef7b713f9dc0fec87a46a69dd0c1ae00c37c1fb3c9b230f5a793d2e1ab318ad6"), looks := false }, kinds := [], alts := [], laidByText := true, laidKinds := [.data, .data, .data], laidTests := true, laidLooks := .later }
def BatchAllCardSaid : Prop := Claim7.holds Tryd.pinned (.plain (OpenSpec.ofChange batchAllSpec)) batchAllCard

/-- THE TIED CARD OF 'aquiferlaw5.BatchCuts'. -/
def batchCutsCard : Claim7 := { stood := { row := batchCutsRow, standIns := [], harness := (true, "ef7b713f9dc0fec87a46a69dd0c1ae00c37c1fb3c9b230f5a793d2e1ab318ad6"), looks := false }, kinds := [], alts := [], laidByText := true, laidKinds := [.data, .data, .data], laidTests := true, laidLooks := .later }
def BatchCutsCardSaid : Prop := Claim7.holds Tryd.pinned (.plain (OpenSpec.ofChange batchCutsSpec)) batchCutsCard

/-- THE TIED CARD OF 'aquiferlaw5.BatchApart'. -/
def batchApartCard : Claim7 := { stood := { row := batchApartRow, standIns := [], harness := (true, "ef7b713f9dc0fec87a46a69dd0c1ae00c37c1fb3c9b230f5a793d2e1ab318ad6"), looks := false }, kinds := [], alts := [], laidByText := true, laidKinds := [.data, .data, .data], laidTests := true, laidLooks := .later }
def BatchApartCardSaid : Prop := Claim7.holds Tryd.pinned (.plain (OpenSpec.ofChange batchApartSpec)) batchApartCard

/-- THE TIED CARD OF 'aquiferlaw5.BatchEnds'. -/
def batchEndsCard : Claim7 := { stood := { row := batchEndsRow, standIns := [], harness := (true, "ef7b713f9dc0fec87a46a69dd0c1ae00c37c1fb3c9b230f5a793d2e1ab318ad6"), looks := false }, kinds := [], alts := [], laidByText := true, laidKinds := [.data, .data, .data], laidTests := true, laidLooks := .later }
def BatchEndsCardSaid : Prop := Claim7.holds Tryd.pinned (.plain (OpenSpec.ofChange batchEndsSpec)) batchEndsCard

/-- THE TIED CARD OF 'aquiferlaw7.WalFull'. -/
def walFullCard : Claim7 := { stood := { row := walFullRow, standIns := [], harness := (true, "ef7b713f9dc0fec87a46a69dd0c1ae00c37c1fb3c9b230f5a793d2e1ab318ad6"), looks := false }, kinds := [], alts := [], laidByText := true, laidKinds := [.data, .data, .data], laidTests := true, laidLooks := .later }
def WalFullCardSaid : Prop := Claim7.holds Tryd.pinned (.plain (OpenSpec.ofChange walFullSpec)) walFullCard

/-- THE TIED CARD OF 'aquiferlaw7.WalOpens'. -/
def walOpensCard : Claim7 := { stood := { row := walOpensRow, standIns := [], harness := (true, "ef7b713f9dc0fec87a46a69dd0c1ae00c37c1fb3c9b230f5a793d2e1ab318ad6"), looks := false }, kinds := [], alts := [], laidByText := true, laidKinds := [.data, .data, .data], laidTests := true, laidLooks := .later }
def WalOpensCardSaid : Prop := Claim7.holds Tryd.pinned (.plain (OpenSpec.ofChange walOpensSpec)) walOpensCard

/-- THE TIED CARD OF 'aquiferlaw7.WalKeeps'. -/
def walKeepsCard : Claim7 := { stood := { row := walKeepsRow, standIns := [], harness := (true, "ef7b713f9dc0fec87a46a69dd0c1ae00c37c1fb3c9b230f5a793d2e1ab318ad6"), looks := false }, kinds := [], alts := [], laidByText := true, laidKinds := [.data, .data, .data], laidTests := true, laidLooks := .later }
def WalKeepsCardSaid : Prop := Claim7.holds Tryd.pinned (.plain (OpenSpec.ofChange walKeepsSpec)) walKeepsCard

/-- THE TIED CARD OF 'aquiferlaw7.WalCrashes'. -/
def walCrashesCard : Claim7 := { stood := { row := walCrashesRow, standIns := [], harness := (true, "ef7b713f9dc0fec87a46a69dd0c1ae00c37c1fb3c9b230f5a793d2e1ab318ad6"), looks := false }, kinds := [], alts := [], laidByText := true, laidKinds := [.data, .data, .data], laidTests := true, laidLooks := .later }
def WalCrashesCardSaid : Prop := Claim7.holds Tryd.pinned (.plain (OpenSpec.ofChange walCrashesSpec)) walCrashesCard

/-- THE TIED CARD OF 'aquiferlaw7.WalResets'. -/
def walResetsCard : Claim7 := { stood := { row := walResetsRow, standIns := [], harness := (true, "ef7b713f9dc0fec87a46a69dd0c1ae00c37c1fb3c9b230f5a793d2e1ab318ad6"), looks := false }, kinds := [], alts := [], laidByText := true, laidKinds := [.data, .data, .data], laidTests := true, laidLooks := .later }
def WalResetsCardSaid : Prop := Claim7.holds Tryd.pinned (.plain (OpenSpec.ofChange walResetsSpec)) walResetsCard

/-- THE TIED CARD OF 'aquiferlaw7.WalNil'. -/
def walNilCard : Claim7 := { stood := { row := walNilRow, standIns := [], harness := (true, "ef7b713f9dc0fec87a46a69dd0c1ae00c37c1fb3c9b230f5a793d2e1ab318ad6"), looks := false }, kinds := [], alts := [], laidByText := true, laidKinds := [.data, .data, .data], laidTests := true, laidLooks := .later }
def WalNilCardSaid : Prop := Claim7.holds Tryd.pinned (.plain (OpenSpec.ofChange walNilSpec)) walNilCard

/-- THE SECOND FORM's CARD OF 'aquiferlaw5.BatchAll'. -/
def batchAllUptoCard : Claim7 := { stood := { row := batchAllUptoRow, standIns := [], harness := (true, "ef7b713f9dc0fec87a46a69dd0c1ae00c37c1fb3c9b230f5a793d2e1ab318ad6"), looks := false }, kinds := [], alts := [], laidByText := true, laidKinds := [.data, .data, .data], laidTests := true, laidLooks := .later }
def BatchAllUptoCardSaid : Prop := Claim7.holds Tryd.pinned (.plain (OpenSpec.upto batchAllSpec)) batchAllUptoCard

/-- THE SECOND FORM's CARD OF 'aquiferlaw5.BatchCuts'. -/
def batchCutsUptoCard : Claim7 := { stood := { row := batchCutsUptoRow, standIns := [], harness := (true, "ef7b713f9dc0fec87a46a69dd0c1ae00c37c1fb3c9b230f5a793d2e1ab318ad6"), looks := false }, kinds := [], alts := [], laidByText := true, laidKinds := [.data, .data, .data], laidTests := true, laidLooks := .later }
def BatchCutsUptoCardSaid : Prop := Claim7.holds Tryd.pinned (.plain (OpenSpec.upto batchCutsSpec)) batchCutsUptoCard

/-- THE SECOND FORM's CARD OF 'aquiferlaw5.BatchApart'. -/
def batchApartUptoCard : Claim7 := { stood := { row := batchApartUptoRow, standIns := [], harness := (true, "ef7b713f9dc0fec87a46a69dd0c1ae00c37c1fb3c9b230f5a793d2e1ab318ad6"), looks := false }, kinds := [], alts := [], laidByText := true, laidKinds := [.data, .data, .data], laidTests := true, laidLooks := .later }
def BatchApartUptoCardSaid : Prop := Claim7.holds Tryd.pinned (.plain (OpenSpec.upto batchApartSpec)) batchApartUptoCard

/-- THE SECOND FORM's CARD OF 'aquiferlaw5.BatchEnds'. -/
def batchEndsUptoCard : Claim7 := { stood := { row := batchEndsUptoRow, standIns := [], harness := (true, "ef7b713f9dc0fec87a46a69dd0c1ae00c37c1fb3c9b230f5a793d2e1ab318ad6"), looks := false }, kinds := [], alts := [], laidByText := true, laidKinds := [.data, .data, .data], laidTests := true, laidLooks := .later }
def BatchEndsUptoCardSaid : Prop := Claim7.holds Tryd.pinned (.plain (OpenSpec.upto batchEndsSpec)) batchEndsUptoCard

/-- THE SECOND FORM's CARD OF 'aquiferlaw7.WalFull'. -/
def walFullUptoCard : Claim7 := { stood := { row := walFullUptoRow, standIns := [], harness := (true, "ef7b713f9dc0fec87a46a69dd0c1ae00c37c1fb3c9b230f5a793d2e1ab318ad6"), looks := false }, kinds := [], alts := [], laidByText := true, laidKinds := [.data, .data, .data], laidTests := true, laidLooks := .later }
def WalFullUptoCardSaid : Prop := Claim7.holds Tryd.pinned (.plain (OpenSpec.upto walFullSpec)) walFullUptoCard

/-- THE SECOND FORM's CARD OF 'aquiferlaw7.WalOpens'. -/
def walOpensUptoCard : Claim7 := { stood := { row := walOpensUptoRow, standIns := [], harness := (true, "ef7b713f9dc0fec87a46a69dd0c1ae00c37c1fb3c9b230f5a793d2e1ab318ad6"), looks := false }, kinds := [], alts := [], laidByText := true, laidKinds := [.data, .data, .data], laidTests := true, laidLooks := .later }
def WalOpensUptoCardSaid : Prop := Claim7.holds Tryd.pinned (.plain (OpenSpec.upto walOpensSpec)) walOpensUptoCard

/-- THE SECOND FORM's CARD OF 'aquiferlaw7.WalKeeps'. -/
def walKeepsUptoCard : Claim7 := { stood := { row := walKeepsUptoRow, standIns := [], harness := (true, "ef7b713f9dc0fec87a46a69dd0c1ae00c37c1fb3c9b230f5a793d2e1ab318ad6"), looks := false }, kinds := [], alts := [], laidByText := true, laidKinds := [.data, .data, .data], laidTests := true, laidLooks := .later }
def WalKeepsUptoCardSaid : Prop := Claim7.holds Tryd.pinned (.plain (OpenSpec.upto walKeepsSpec)) walKeepsUptoCard

/-- THE SECOND FORM's CARD OF 'aquiferlaw7.WalCrashes'. -/
def walCrashesUptoCard : Claim7 := { stood := { row := walCrashesUptoRow, standIns := [], harness := (true, "ef7b713f9dc0fec87a46a69dd0c1ae00c37c1fb3c9b230f5a793d2e1ab318ad6"), looks := false }, kinds := [], alts := [], laidByText := true, laidKinds := [.data, .data, .data], laidTests := true, laidLooks := .later }
def WalCrashesUptoCardSaid : Prop := Claim7.holds Tryd.pinned (.plain (OpenSpec.upto walCrashesSpec)) walCrashesUptoCard

/-- THE SECOND FORM's CARD OF 'aquiferlaw7.WalResets'. -/
def walResetsUptoCard : Claim7 := { stood := { row := walResetsUptoRow, standIns := [], harness := (true, "ef7b713f9dc0fec87a46a69dd0c1ae00c37c1fb3c9b230f5a793d2e1ab318ad6"), looks := false }, kinds := [], alts := [], laidByText := true, laidKinds := [.data, .data, .data], laidTests := true, laidLooks := .later }
def WalResetsUptoCardSaid : Prop := Claim7.holds Tryd.pinned (.plain (OpenSpec.upto walResetsSpec)) walResetsUptoCard

/-- THE SECOND FORM's CARD OF 'aquiferlaw7.WalNil'. -/
def walNilUptoCard : Claim7 := { stood := { row := walNilUptoRow, standIns := [], harness := (true, "ef7b713f9dc0fec87a46a69dd0c1ae00c37c1fb3c9b230f5a793d2e1ab318ad6"), looks := false }, kinds := [], alts := [], laidByText := true, laidKinds := [.data, .data, .data], laidTests := true, laidLooks := .later }
def WalNilUptoCardSaid : Prop := Claim7.holds Tryd.pinned (.plain (OpenSpec.upto walNilSpec)) walNilUptoCard
end Rows
end Go.Proofs.YtaldneffhbgepaaDoor
