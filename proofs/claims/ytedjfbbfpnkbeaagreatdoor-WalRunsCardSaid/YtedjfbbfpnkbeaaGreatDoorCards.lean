/-
  DERIVED. GIVEN WITH THE SEED: THE CARDS: each row of YtedjfbbfpnkbeaaGreatDoorRows.lean that lists a variable, with what it lists TIED to the program's text (the seventh form; the later family's looks); each row that meets fmt, with fmt's text TOLD by the authors' own Lean function (tested against real Go, not proved from fmt's source: count such statements apart). THE CARD IS WHAT COUNTS. Prove the row's statement (the work); the ties are given (YtedjfbbfpnkbeaaGreatDoorTie.lean); close each card by the builder's one call (the guide's Derived/Test/ToyasCard.lean, 'card_holds'). Laid BY PROGRAM, IN A SANDBOX (cutbox-door.mjs). By AI agents, Wed Nov 11 2026. No macro, syntax, notation, axiom, sorry.
-/
import Derived.Test.YtedjfbbfpnkbeaaGreatDoorRows
import GoSem.ClaimSeven
namespace Go.Proofs.YtedjfbbfpnkbeaaGreatDoor
namespace Rows

/-- THE TIED CARD OF 'aquiferlaw7.WalRuns'. -/
def walRunsCard : Claim7 := { stood := { row := walRunsRow, standIns := [], harness := (true, "d290e9d9bcca99d12cfc72535f8a56a1bc2d2e2889d0c9f92673c94f00a97799"), looks := false }, kinds := [], alts := [], laidByText := true, laidKinds := [.data, .data, .data], laidTests := true, laidLooks := .later }
def WalRunsCardSaid : Prop := Claim7.holds Tryz.pinned (.plain (OpenSpec.ofChange walRunsSpec)) walRunsCard

/-- THE SECOND FORM's CARD OF 'aquiferlaw7.WalRuns'. -/
def walRunsUptoCard : Claim7 := { stood := { row := walRunsUptoRow, standIns := [], harness := (true, "d290e9d9bcca99d12cfc72535f8a56a1bc2d2e2889d0c9f92673c94f00a97799"), looks := false }, kinds := [], alts := [], laidByText := true, laidKinds := [.data, .data, .data], laidTests := true, laidLooks := .later }
def WalRunsUptoCardSaid : Prop := Claim7.holds Tryz.pinned (.plain (OpenSpec.upto walRunsSpec)) walRunsUptoCard
end Rows
end Go.Proofs.YtedjfbbfpnkbeaaGreatDoor
