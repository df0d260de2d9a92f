/-
  DERIVED. GIVEN WITH THE SEED: THE CARDS: each row of YtdmdiokfpbmnaaaDoorRows.lean that lists a variable, with what it lists TIED to the program's text (the seventh form; the later family's looks); each row that meets fmt, with fmt's text TOLD by the authors' own Lean function (tested against real Go, not proved from fmt's source: count such statements apart). THE CARD IS WHAT COUNTS. Prove the row's statement (the work); the ties are given (YtdmdiokfpbmnaaaDoorTie.lean); close each card by the builder's one call (the guide's Derived/Test/ToyasCard.lean, 'card_holds'). Laid BY PROGRAM, IN A SANDBOX (cutbox-door.mjs). By AI agents, Wed Nov 11 2026. No macro, syntax, notation, axiom, sorry.
-/
import Derived.Test.YtdmdiokfpbmnaaaDoorRows
import GoSem.ClaimSeven
namespace Go.Proofs.YtdmdiokfpbmnaaaDoor
namespace Rows

/-- THE TIED CARD OF 'aquiferlaw18.DiagSorts'. -/
def diagSortsCard : Claim7 := { stood := { row := diagSortsRow, standIns := [], harness := (true, "94ad557d25b860c460d5a04708e92811b78d1703d8db41cf01af582dced856bc"), looks := true }, kinds := [], alts := [], laidByText := true, laidKinds := [.data, .data, .data], laidTests := true, laidLooks := .later }
def DiagSortsCardSaid : Prop := Claim7.holds Tryd.pinned (.plain (OpenSpec.ofChange diagSortsSpec)) diagSortsCard

/-- THE TIED CARD OF 'aquiferlaw18.DiagBack'. -/
def diagBackCard : Claim7 := { stood := { row := diagBackRow, standIns := [], harness := (true, "94ad557d25b860c460d5a04708e92811b78d1703d8db41cf01af582dced856bc"), looks := true }, kinds := [], alts := [], laidByText := true, laidKinds := [.data, .data, .data, .sentinel, .sentinel], laidTests := true, laidLooks := .later }
def DiagBackCardSaid : Prop := Claim7.holds Tryd.pinned (.plain (OpenSpec.ofChange diagBackSpec)) diagBackCard

/-- THE TIED CARD OF 'aquiferlaw18.DiagAll'. -/
def diagAllCard : Claim7 := { stood := { row := diagAllRow, standIns := [], harness := (true, "94ad557d25b860c460d5a04708e92811b78d1703d8db41cf01af582dced856bc"), looks := true }, kinds := [], alts := [], laidByText := true, laidKinds := [.data, .data, .data, .sentinel, .sentinel], laidTests := true, laidLooks := .later }
def DiagAllCardSaid : Prop := Claim7.holds Tryd.pinned (.plain (OpenSpec.ofChange diagAllSpec)) diagAllCard

/-- THE TIED CARD OF 'aquiferlaw23.KeyApart'. -/
def keyApartCard : Claim7 := { stood := { row := keyApartRow, standIns := [], harness := (true, "94ad557d25b860c460d5a04708e92811b78d1703d8db41cf01af582dced856bc"), looks := true }, kinds := [], alts := [], laidByText := true, laidKinds := [.data, .data, .data, .sentinel, .sentinel], laidTests := true, laidLooks := .later }
def KeyApartCardSaid : Prop := Claim7.holds Tryd.pinned (.plain (OpenSpec.ofChange keyApartSpec)) keyApartCard

/-- THE SECOND FORM's CARD OF 'aquiferlaw18.DiagSorts'. -/
def diagSortsUptoCard : Claim7 := { stood := { row := diagSortsUptoRow, standIns := [], harness := (true, "94ad557d25b860c460d5a04708e92811b78d1703d8db41cf01af582dced856bc"), looks := true }, kinds := [], alts := [], laidByText := true, laidKinds := [.data, .data, .data], laidTests := true, laidLooks := .later }
def DiagSortsUptoCardSaid : Prop := Claim7.holds Tryd.pinned (.plain (OpenSpec.upto diagSortsSpec)) diagSortsUptoCard

/-- THE SECOND FORM's CARD OF 'aquiferlaw18.DiagBack'. -/
def diagBackUptoCard : Claim7 := { stood := { row := diagBackUptoRow, standIns := [], harness := (true, "94ad557d25b860c460d5a04708e92811b78d1703d8db41cf01af582dced856bc"), looks := true }, kinds := [], alts := [], laidByText := true, laidKinds := [.data, .data, .data, .sentinel, .sentinel], laidTests := true, laidLooks := .later }
def DiagBackUptoCardSaid : Prop := Claim7.holds Tryd.pinned (.plain (OpenSpec.upto diagBackSpec)) diagBackUptoCard

/-- THE SECOND FORM's CARD OF 'aquiferlaw18.DiagAll'. -/
def diagAllUptoCard : Claim7 := { stood := { row := diagAllUptoRow, standIns := [], harness := (true, "94ad557d25b860c460d5a04708e92811b78d1703d8db41cf01af582dced856bc"), looks := true }, kinds := [], alts := [], laidByText := true, laidKinds := [.data, .data, .data, .sentinel, .sentinel], laidTests := true, laidLooks := .later }
def DiagAllUptoCardSaid : Prop := Claim7.holds Tryd.pinned (.plain (OpenSpec.upto diagAllSpec)) diagAllUptoCard

/-- THE SECOND FORM's CARD OF 'aquiferlaw23.KeyApart'. -/
def keyApartUptoCard : Claim7 := { stood := { row := keyApartUptoRow, standIns := [], harness := (true, "94ad557d25b860c460d5a04708e92811b78d1703d8db41cf01af582dced856bc"), looks := true }, kinds := [], alts := [], laidByText := true, laidKinds := [.data, .data, .data, .sentinel, .sentinel], laidTests := true, laidLooks := .later }
def KeyApartUptoCardSaid : Prop := Claim7.holds Tryd.pinned (.plain (OpenSpec.upto keyApartSpec)) keyApartUptoCard
end Rows
end Go.Proofs.YtdmdiokfpbmnaaaDoor
