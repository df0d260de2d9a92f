/-
  DERIVED. GIVEN WITH THE SEED: THE CARDS: each row of YtkklofnabmdmfaaGreatDoorRows.lean that lists a variable, with what it lists TIED to the program's text (the seventh form; the later family's looks); each row that meets fmt, with fmt's text TOLD by the authors' own Lean function (tested against real Go, not proved from fmt's source: count such statements apart). THE CARD IS WHAT COUNTS. Prove the row's statement (the work); the ties are given (YtkklofnabmdmfaaGreatDoorTie.lean); close each card by the builder's one call (the guide's Derived/Test/ToyasCard.lean, 'card_holds'). Laid BY PROGRAM, IN A SANDBOX (cutbox-door.mjs). By AI agents, Wed Nov 11 2026. No macro, syntax, notation, axiom, sorry.
-/
import Derived.Test.YtkklofnabmdmfaaGreatDoorRows
import GoSem.ClaimSeven
namespace Go.Proofs.YtkklofnabmdmfaaGreatDoor
namespace Rows

/-- THE TIED CARD OF 'aquiferlaw24.CacheNil'. -/
def cacheNilCard : Claim7 := { stood := { row := cacheNilRow, standIns := [], harness := (true, "f3b997474ac49995e97506290acabaa4a3d7e4082ebff782d7859df5781a7bf6"), looks := true }, kinds := [], alts := [], laidByText := true, laidKinds := [.data, .data, .data, .sentinel, .sentinel], laidTests := true, laidLooks := .later }
def CacheNilCardSaid : Prop := Claim7.holds Tryz.pinned (.plain (OpenSpec.ofChange cacheNilSpec)) cacheNilCard

/-- THE TIED CARD OF 'aquiferlaw24.CacheWrites'. -/
def cacheWritesCard : Claim7 := { stood := { row := cacheWritesRow, standIns := [], harness := (true, "f3b997474ac49995e97506290acabaa4a3d7e4082ebff782d7859df5781a7bf6"), looks := true }, kinds := [], alts := [], laidByText := true, laidKinds := [.data, .data, .data, .sentinel, .sentinel], laidTests := true, laidLooks := .later }
def CacheWritesCardSaid : Prop := Claim7.holds Tryz.pinned (.plain (OpenSpec.ofChange cacheWritesSpec)) cacheWritesCard

/-- THE TIED CARD OF 'aquiferlaw24.CacheLoses'. -/
def cacheLosesCard : Claim7 := { stood := { row := cacheLosesRow, standIns := [], harness := (true, "f3b997474ac49995e97506290acabaa4a3d7e4082ebff782d7859df5781a7bf6"), looks := true }, kinds := [], alts := [], laidByText := true, laidKinds := [.data, .data, .data, .sentinel, .sentinel], laidTests := true, laidLooks := .later }
def CacheLosesCardSaid : Prop := Claim7.holds Tryz.pinned (.plain (OpenSpec.ofChange cacheLosesSpec)) cacheLosesCard

/-- THE TIED CARD OF 'aquiferlaw24.CacheTrue'. -/
def cacheTrueCard : Claim7 := { stood := { row := cacheTrueRow, standIns := [], harness := (true, "f3b997474ac49995e97506290acabaa4a3d7e4082ebff782d7859df5781a7bf6"), looks := true }, kinds := [], alts := [], laidByText := true, laidKinds := [.data, .data, .data, .sentinel, .sentinel], laidTests := true, laidLooks := .later }
def CacheTrueCardSaid : Prop := Claim7.holds Tryz.pinned (.plain (OpenSpec.ofChange cacheTrueSpec)) cacheTrueCard

/-- THE TIED CARD OF 'aquiferlaw24.CacheStays'. -/
def cacheStaysCard : Claim7 := { stood := { row := cacheStaysRow, standIns := [], harness := (true, "f3b997474ac49995e97506290acabaa4a3d7e4082ebff782d7859df5781a7bf6"), looks := true }, kinds := [], alts := [], laidByText := true, laidKinds := [.data, .data, .data, .sentinel, .sentinel], laidTests := true, laidLooks := .later }
def CacheStaysCardSaid : Prop := Claim7.holds Tryz.pinned (.plain (OpenSpec.ofChange cacheStaysSpec)) cacheStaysCard

/-- THE SECOND FORM's CARD OF 'aquiferlaw24.CacheNil'. -/
def cacheNilUptoCard : Claim7 := { stood := { row := cacheNilUptoRow, standIns := [], harness := (true, "f3b997474ac49995e97506290acabaa4a3d7e4082ebff782d7859df5781a7bf6"), looks := true }, kinds := [], alts := [], laidByText := true, laidKinds := [.data, .data, .data, .sentinel, .sentinel], laidTests := true, laidLooks := .later }
def CacheNilUptoCardSaid : Prop := Claim7.holds Tryz.pinned (.plain (OpenSpec.upto cacheNilSpec)) cacheNilUptoCard

/-- THE SECOND FORM's CARD OF 'aquiferlaw24.CacheWrites'. -/
def cacheWritesUptoCard : Claim7 := { stood := { row := cacheWritesUptoRow, standIns := [], harness := (true, "f3b997474ac49995e97506290acabaa4a3d7e4082ebff782d7859df5781a7bf6"), looks := true }, kinds := [], alts := [], laidByText := true, laidKinds := [.data, .data, .data, .sentinel, .sentinel], laidTests := true, laidLooks := .later }
def CacheWritesUptoCardSaid : Prop := Claim7.holds Tryz.pinned (.plain (OpenSpec.upto cacheWritesSpec)) cacheWritesUptoCard

/-- THE SECOND FORM's CARD OF 'aquiferlaw24.CacheLoses'. -/
def cacheLosesUptoCard : Claim7 := { stood := { row := cacheLosesUptoRow, standIns := [], harness := (true, "f3b997474ac49995e97506290acabaa4a3d7e4082ebff782d7859df5781a7bf6"), looks := true }, kinds := [], alts := [], laidByText := true, laidKinds := [.data, .data, .data, .sentinel, .sentinel], laidTests := true, laidLooks := .later }
def CacheLosesUptoCardSaid : Prop := Claim7.holds Tryz.pinned (.plain (OpenSpec.upto cacheLosesSpec)) cacheLosesUptoCard

/-- THE SECOND FORM's CARD OF 'aquiferlaw24.CacheTrue'. -/
def cacheTrueUptoCard : Claim7 := { stood := { row := cacheTrueUptoRow, standIns := [], harness := (true, "f3b997474ac49995e97506290acabaa4a3d7e4082ebff782d7859df5781a7bf6"), looks := true }, kinds := [], alts := [], laidByText := true, laidKinds := [.data, .data, .data, .sentinel, .sentinel], laidTests := true, laidLooks := .later }
def CacheTrueUptoCardSaid : Prop := Claim7.holds Tryz.pinned (.plain (OpenSpec.upto cacheTrueSpec)) cacheTrueUptoCard

/-- THE SECOND FORM's CARD OF 'aquiferlaw24.CacheStays'. -/
def cacheStaysUptoCard : Claim7 := { stood := { row := cacheStaysUptoRow, standIns := [], harness := (true, "f3b997474ac49995e97506290acabaa4a3d7e4082ebff782d7859df5781a7bf6"), looks := true }, kinds := [], alts := [], laidByText := true, laidKinds := [.data, .data, .data, .sentinel, .sentinel], laidTests := true, laidLooks := .later }
def CacheStaysUptoCardSaid : Prop := Claim7.holds Tryz.pinned (.plain (OpenSpec.upto cacheStaysSpec)) cacheStaysUptoCard
end Rows
end Go.Proofs.YtkklofnabmdmfaaGreatDoor
