/-
  No cell of these rows narrows 'for every input' (looked for: loops, veiled, ifaces, maps, wideKeys, modest, calm, conditions, laid).
  DERIVED. THE GIVEN ROWS OF THIS SEAT. 21 by the template 'for every input the law returns true; each argument reads behind the call as it read before'; 0 by the template 'total and deterministic' (their statements: YtnoleekdldmagaaTotals.lean).
  GIVEN WITH THE SEED: the statements are not yours to turn. If you find one false, say at which input.
  Laid BY PROGRAM, IN A SANDBOX (cutbox-rows.mjs): the forced cells as the released guide's own fill.sh prints them over the translation 8839f3d0f37b580c… (all of the seat's roots in one cut). By AI agents, Wed Nov 11 2026. No macro, syntax, notation, axiom, sorry.
-/
import Derived.Test.YtnoleekdldmagaaChecked
import GoSem.Claim
import GoSem.ClaimJoined
import GoSem.ClaimMapViews
import Derived.JoinedTies
import Derived.KernelRfl
namespace Go.Proofs.Ytnoleekdldmagaa
/- THE CELL 'sum', in the pinned program and in every row, IS THE sha256 OF THE DUMP (.gsa) THAT YtnoleekdldmagaaProg.lean LOADS. Nothing in Lean hashes anything: it is a label: what it is worth is what the hold of that sum in a sandbox is worth. -/
noncomputable def Try.pinned : Pinned := { name := "ytnoleekdldmagaa", sum := "8839f3d0f37b580c438e895edd6b8efd40ab8d8a8e66f45c8b1f7a98bf0386a2", checked := Try.checked }
namespace Rows
def none {H : Type} : Left H := { results := [], args := [] }

/-- 'aquiferlaw6.TableAgain': WHATEVER THE INPUT: true; the input reads as it did. -/
def tableAgainSpec : ChangeSpec := { name := "tableAgain", fn := fun _ => fun
  | [d1, d2, d3] => { results := [.lit (.bool true)], args := [d1, d2, d3] }
  | _ => none }
def tableAgainRow : OpenClaim := { program := "ytnoleekdldmagaa", sum := "8839f3d0f37b580c438e895edd6b8efd40ab8d8a8e66f45c8b1f7a98bf0386a2", func := "aquifer/aquiferlaw6.TableAgain", spec := "tableAgain", inPlace := ["internal/bytealg.abigen_runtime_cmpstring", "slices.overlaps[aquifer/api.Pair]"], unfollowed := true, recurses := true, apart := false }
def TableAgainSaid : Prop := tableAgainRow.holds Try.pinned (OpenSpec.ofChange tableAgainSpec)

/-- ITS FALSE NEIGHBOUR: 'it returns false'. Refute it at one input. -/
def tableAgainWrong : ChangeSpec := { name := "tableAgain", fn := fun _ => fun
  | [d1, d2, d3] => { results := [.lit (.bool false)], args := [d1, d2, d3] }
  | _ => none }
def TableAgainWrongFalsely : Prop := tableAgainRow.holds Try.pinned (OpenSpec.ofChange tableAgainWrong)

/-- 'aquiferlaw6.TableTurns': WHATEVER THE INPUT: true; the input reads as it did. -/
def tableTurnsSpec : ChangeSpec := { name := "tableTurns", fn := fun _ => fun
  | [d1, d2, d3] => { results := [.lit (.bool true)], args := [d1, d2, d3] }
  | _ => none }
def tableTurnsRow : OpenClaim := { program := "ytnoleekdldmagaa", sum := "8839f3d0f37b580c438e895edd6b8efd40ab8d8a8e66f45c8b1f7a98bf0386a2", func := "aquifer/aquiferlaw6.TableTurns", spec := "tableTurns", inPlace := ["internal/bytealg.abigen_runtime_cmpstring", "slices.overlaps[aquifer/api.Pair]"], unfollowed := true, recurses := true, apart := false }
def TableTurnsSaid : Prop := tableTurnsRow.holds Try.pinned (OpenSpec.ofChange tableTurnsSpec)

/-- ITS FALSE NEIGHBOUR: 'it returns false'. Refute it at one input. -/
def tableTurnsWrong : ChangeSpec := { name := "tableTurns", fn := fun _ => fun
  | [d1, d2, d3] => { results := [.lit (.bool false)], args := [d1, d2, d3] }
  | _ => none }
def TableTurnsWrongFalsely : Prop := tableTurnsRow.holds Try.pinned (OpenSpec.ofChange tableTurnsWrong)

/-- 'aquiferlaw6.TableLast': WHATEVER THE INPUT: true; the input reads as it did. -/
def tableLastSpec : ChangeSpec := { name := "tableLast", fn := fun _ => fun
  | [d1, d2, d3] => { results := [.lit (.bool true)], args := [d1, d2, d3] }
  | _ => none }
def tableLastRow : OpenClaim := { program := "ytnoleekdldmagaa", sum := "8839f3d0f37b580c438e895edd6b8efd40ab8d8a8e66f45c8b1f7a98bf0386a2", func := "aquifer/aquiferlaw6.TableLast", spec := "tableLast", inPlace := ["internal/bytealg.abigen_runtime_cmpstring", "slices.overlaps[aquifer/api.Pair]"], unfollowed := true, recurses := true, apart := false }
def TableLastSaid : Prop := tableLastRow.holds Try.pinned (OpenSpec.ofChange tableLastSpec)

/-- ITS FALSE NEIGHBOUR: 'it returns false'. Refute it at one input. -/
def tableLastWrong : ChangeSpec := { name := "tableLast", fn := fun _ => fun
  | [d1, d2, d3] => { results := [.lit (.bool false)], args := [d1, d2, d3] }
  | _ => none }
def TableLastWrongFalsely : Prop := tableLastRow.holds Try.pinned (OpenSpec.ofChange tableLastWrong)

/-- 'aquiferlaw1.DiskFails': WHATEVER THE INPUT: true; the input reads as it did. -/
def diskFailsSpec : ChangeSpec := { name := "diskFails", fn := fun _ => fun
  | [d1, d2] => { results := [.lit (.bool true)], args := [d1, d2] }
  | _ => none }
def diskFailsRow : OpenClaim := { program := "ytnoleekdldmagaa", sum := "8839f3d0f37b580c438e895edd6b8efd40ab8d8a8e66f45c8b1f7a98bf0386a2", func := "aquifer/aquiferlaw1.DiskFails", spec := "diskFails", inPlace := ["internal/bytealg.abigen_runtime_cmpstring", "slices.overlaps[*aquifer/disk.file]"], unfollowed := true, recurses := true, apart := false }
def DiskFailsSaid : Prop := diskFailsRow.holds Try.pinned (OpenSpec.ofChange diskFailsSpec)

/-- ITS FALSE NEIGHBOUR: 'it returns false'. Refute it at one input. -/
def diskFailsWrong : ChangeSpec := { name := "diskFails", fn := fun _ => fun
  | [d1, d2] => { results := [.lit (.bool false)], args := [d1, d2] }
  | _ => none }
def DiskFailsWrongFalsely : Prop := diskFailsRow.holds Try.pinned (OpenSpec.ofChange diskFailsWrong)

/-- 'aquiferlaw1.DiskApart': WHATEVER THE INPUT: true; the input reads as it did. -/
def diskApartSpec : ChangeSpec := { name := "diskApart", fn := fun _ => fun
  | [d] => { results := [.lit (.bool true)], args := [d] }
  | _ => none }
def diskApartRow : OpenClaim := { program := "ytnoleekdldmagaa", sum := "8839f3d0f37b580c438e895edd6b8efd40ab8d8a8e66f45c8b1f7a98bf0386a2", func := "aquifer/aquiferlaw1.DiskApart", spec := "diskApart", inPlace := ["internal/bytealg.abigen_runtime_cmpstring", "slices.overlaps[*aquifer/disk.file]"], unfollowed := true, recurses := true, apart := false }
def DiskApartSaid : Prop := diskApartRow.holds Try.pinned (OpenSpec.ofChange diskApartSpec)

/-- ITS FALSE NEIGHBOUR: 'it returns false'. Refute it at one input. -/
def diskApartWrong : ChangeSpec := { name := "diskApart", fn := fun _ => fun
  | [d] => { results := [.lit (.bool false)], args := [d] }
  | _ => none }
def DiskApartWrongFalsely : Prop := diskApartRow.holds Try.pinned (OpenSpec.ofChange diskApartWrong)

/-- 'aquiferlaw1.DiskCuts': WHATEVER THE INPUT: true; the input reads as it did. -/
def diskCutsSpec : ChangeSpec := { name := "diskCuts", fn := fun _ => fun
  | [d1, d2, d3, d4] => { results := [.lit (.bool true)], args := [d1, d2, d3, d4] }
  | _ => none }
def diskCutsRow : OpenClaim := { program := "ytnoleekdldmagaa", sum := "8839f3d0f37b580c438e895edd6b8efd40ab8d8a8e66f45c8b1f7a98bf0386a2", func := "aquifer/aquiferlaw1.DiskCuts", spec := "diskCuts", inPlace := ["internal/bytealg.abigen_runtime_cmpstring", "slices.overlaps[*aquifer/disk.file]"], unfollowed := true, recurses := true, apart := false }
def DiskCutsSaid : Prop := diskCutsRow.holds Try.pinned (OpenSpec.ofChange diskCutsSpec)

/-- ITS FALSE NEIGHBOUR: 'it returns false'. Refute it at one input. -/
def diskCutsWrong : ChangeSpec := { name := "diskCuts", fn := fun _ => fun
  | [d1, d2, d3, d4] => { results := [.lit (.bool false)], args := [d1, d2, d3, d4] }
  | _ => none }
def DiskCutsWrongFalsely : Prop := diskCutsRow.holds Try.pinned (OpenSpec.ofChange diskCutsWrong)

/-- 'aquiferlaw1.DiskKeeps': WHATEVER THE INPUT: true; the input reads as it did. -/
def diskKeepsSpec : ChangeSpec := { name := "diskKeeps", fn := fun _ => fun
  | [d1, d2, d3] => { results := [.lit (.bool true)], args := [d1, d2, d3] }
  | _ => none }
def diskKeepsRow : OpenClaim := { program := "ytnoleekdldmagaa", sum := "8839f3d0f37b580c438e895edd6b8efd40ab8d8a8e66f45c8b1f7a98bf0386a2", func := "aquifer/aquiferlaw1.DiskKeeps", spec := "diskKeeps", inPlace := ["internal/bytealg.abigen_runtime_cmpstring", "slices.overlaps[*aquifer/disk.file]"], unfollowed := true, recurses := true, apart := false }
def DiskKeepsSaid : Prop := diskKeepsRow.holds Try.pinned (OpenSpec.ofChange diskKeepsSpec)

/-- ITS FALSE NEIGHBOUR: 'it returns false'. Refute it at one input. -/
def diskKeepsWrong : ChangeSpec := { name := "diskKeeps", fn := fun _ => fun
  | [d1, d2, d3] => { results := [.lit (.bool false)], args := [d1, d2, d3] }
  | _ => none }
def DiskKeepsWrongFalsely : Prop := diskKeepsRow.holds Try.pinned (OpenSpec.ofChange diskKeepsWrong)

/-- 'aquiferlaw1.DiskStops': WHATEVER THE INPUT: true; the input reads as it did. -/
def diskStopsSpec : ChangeSpec := { name := "diskStops", fn := fun _ => fun
  | [d1, d2] => { results := [.lit (.bool true)], args := [d1, d2] }
  | _ => none }
def diskStopsRow : OpenClaim := { program := "ytnoleekdldmagaa", sum := "8839f3d0f37b580c438e895edd6b8efd40ab8d8a8e66f45c8b1f7a98bf0386a2", func := "aquifer/aquiferlaw1.DiskStops", spec := "diskStops", inPlace := ["internal/bytealg.abigen_runtime_cmpstring", "slices.overlaps[*aquifer/disk.file]"], unfollowed := true, recurses := true, apart := false }
def DiskStopsSaid : Prop := diskStopsRow.holds Try.pinned (OpenSpec.ofChange diskStopsSpec)

/-- ITS FALSE NEIGHBOUR: 'it returns false'. Refute it at one input. -/
def diskStopsWrong : ChangeSpec := { name := "diskStops", fn := fun _ => fun
  | [d1, d2] => { results := [.lit (.bool false)], args := [d1, d2] }
  | _ => none }
def DiskStopsWrongFalsely : Prop := diskStopsRow.holds Try.pinned (OpenSpec.ofChange diskStopsWrong)

/-- 'aquiferlaw1.DiskRenames': WHATEVER THE INPUT: true; the input reads as it did. -/
def diskRenamesSpec : ChangeSpec := { name := "diskRenames", fn := fun _ => fun
  | [d1, d2, d3] => { results := [.lit (.bool true)], args := [d1, d2, d3] }
  | _ => none }
def diskRenamesRow : OpenClaim := { program := "ytnoleekdldmagaa", sum := "8839f3d0f37b580c438e895edd6b8efd40ab8d8a8e66f45c8b1f7a98bf0386a2", func := "aquifer/aquiferlaw1.DiskRenames", spec := "diskRenames", inPlace := ["internal/bytealg.abigen_runtime_cmpstring", "slices.overlaps[*aquifer/disk.file]"], unfollowed := true, recurses := true, apart := false }
def DiskRenamesSaid : Prop := diskRenamesRow.holds Try.pinned (OpenSpec.ofChange diskRenamesSpec)

/-- ITS FALSE NEIGHBOUR: 'it returns false'. Refute it at one input. -/
def diskRenamesWrong : ChangeSpec := { name := "diskRenames", fn := fun _ => fun
  | [d1, d2, d3] => { results := [.lit (.bool false)], args := [d1, d2, d3] }
  | _ => none }
def DiskRenamesWrongFalsely : Prop := diskRenamesRow.holds Try.pinned (OpenSpec.ofChange diskRenamesWrong)

/-- 'aquiferlaw1.DiskLists': WHATEVER THE INPUT: true; the input reads as it did. -/
def diskListsSpec : ChangeSpec := { name := "diskLists", fn := fun _ => fun
  | [d] => { results := [.lit (.bool true)], args := [d] }
  | _ => none }
def diskListsRow : OpenClaim := { program := "ytnoleekdldmagaa", sum := "8839f3d0f37b580c438e895edd6b8efd40ab8d8a8e66f45c8b1f7a98bf0386a2", func := "aquifer/aquiferlaw1.DiskLists", spec := "diskLists", inPlace := ["internal/bytealg.abigen_runtime_cmpstring", "slices.overlaps[*aquifer/disk.file]"], unfollowed := true, recurses := true, apart := false }
def DiskListsSaid : Prop := diskListsRow.holds Try.pinned (OpenSpec.ofChange diskListsSpec)

/-- ITS FALSE NEIGHBOUR: 'it returns false'. Refute it at one input. -/
def diskListsWrong : ChangeSpec := { name := "diskLists", fn := fun _ => fun
  | [d] => { results := [.lit (.bool false)], args := [d] }
  | _ => none }
def DiskListsWrongFalsely : Prop := diskListsRow.holds Try.pinned (OpenSpec.ofChange diskListsWrong)

/-- 'aquiferlaw1.DiskRuns': WHATEVER THE INPUT: true; the input reads as it did. -/
def diskRunsSpec : ChangeSpec := { name := "diskRuns", fn := fun _ => fun
  | [d1, d2] => { results := [.lit (.bool true)], args := [d1, d2] }
  | _ => none }
def diskRunsRow : OpenClaim := { program := "ytnoleekdldmagaa", sum := "8839f3d0f37b580c438e895edd6b8efd40ab8d8a8e66f45c8b1f7a98bf0386a2", func := "aquifer/aquiferlaw1.DiskRuns", spec := "diskRuns", inPlace := ["internal/bytealg.abigen_runtime_cmpstring", "slices.overlaps[*aquifer/disk.file]"], unfollowed := true, recurses := true, apart := false }
def DiskRunsSaid : Prop := diskRunsRow.holds Try.pinned (OpenSpec.ofChange diskRunsSpec)

/-- ITS FALSE NEIGHBOUR: 'it returns false'. Refute it at one input. -/
def diskRunsWrong : ChangeSpec := { name := "diskRuns", fn := fun _ => fun
  | [d1, d2] => { results := [.lit (.bool false)], args := [d1, d2] }
  | _ => none }
def DiskRunsWrongFalsely : Prop := diskRunsRow.holds Try.pinned (OpenSpec.ofChange diskRunsWrong)

/-- 'aquiferlaw1.DiskNil': WHATEVER THE INPUT: true; the input reads as it did. -/
def diskNilSpec : ChangeSpec := { name := "diskNil", fn := fun _ => fun
  | [d1, d2, d3] => { results := [.lit (.bool true)], args := [d1, d2, d3] }
  | _ => none }
def diskNilRow : OpenClaim := { program := "ytnoleekdldmagaa", sum := "8839f3d0f37b580c438e895edd6b8efd40ab8d8a8e66f45c8b1f7a98bf0386a2", func := "aquifer/aquiferlaw1.DiskNil", spec := "diskNil", inPlace := ["internal/bytealg.abigen_runtime_cmpstring", "slices.overlaps[*aquifer/disk.file]"], unfollowed := true, recurses := true, apart := false }
def DiskNilSaid : Prop := diskNilRow.holds Try.pinned (OpenSpec.ofChange diskNilSpec)

/-- ITS FALSE NEIGHBOUR: 'it returns false'. Refute it at one input. -/
def diskNilWrong : ChangeSpec := { name := "diskNil", fn := fun _ => fun
  | [d1, d2, d3] => { results := [.lit (.bool false)], args := [d1, d2, d3] }
  | _ => none }
def DiskNilWrongFalsely : Prop := diskNilRow.holds Try.pinned (OpenSpec.ofChange diskNilWrong)

/-- 'aquiferlaw6.TableBack': WHATEVER THE INPUT: true; the input reads as it did. -/
def tableBackSpec : ChangeSpec := { name := "tableBack", fn := fun _ => fun
  | [d1, d2] => { results := [.lit (.bool true)], args := [d1, d2] }
  | _ => none }
def tableBackRow : OpenClaim := { program := "ytnoleekdldmagaa", sum := "8839f3d0f37b580c438e895edd6b8efd40ab8d8a8e66f45c8b1f7a98bf0386a2", func := "aquifer/aquiferlaw6.TableBack", spec := "tableBack", inPlace := ["internal/bytealg.abigen_runtime_cmpstring", "slices.overlaps[aquifer/api.Pair]"], unfollowed := true, recurses := true, apart := false }
def TableBackSaid : Prop := tableBackRow.holds Try.pinned (OpenSpec.ofChange tableBackSpec)

/-- ITS FALSE NEIGHBOUR: 'it returns false'. Refute it at one input. -/
def tableBackWrong : ChangeSpec := { name := "tableBack", fn := fun _ => fun
  | [d1, d2] => { results := [.lit (.bool false)], args := [d1, d2] }
  | _ => none }
def TableBackWrongFalsely : Prop := tableBackRow.holds Try.pinned (OpenSpec.ofChange tableBackWrong)

/-- 'aquiferlaw6.TableAll': WHATEVER THE INPUT: true; the input reads as it did. -/
def tableAllSpec : ChangeSpec := { name := "tableAll", fn := fun _ => fun
  | [d1, d2, d3, d4] => { results := [.lit (.bool true)], args := [d1, d2, d3, d4] }
  | _ => none }
def tableAllRow : OpenClaim := { program := "ytnoleekdldmagaa", sum := "8839f3d0f37b580c438e895edd6b8efd40ab8d8a8e66f45c8b1f7a98bf0386a2", func := "aquifer/aquiferlaw6.TableAll", spec := "tableAll", inPlace := ["internal/bytealg.abigen_runtime_cmpstring", "slices.overlaps[aquifer/api.Pair]"], unfollowed := true, recurses := true, apart := false }
def TableAllSaid : Prop := tableAllRow.holds Try.pinned (OpenSpec.ofChange tableAllSpec)

/-- ITS FALSE NEIGHBOUR: 'it returns false'. Refute it at one input. -/
def tableAllWrong : ChangeSpec := { name := "tableAll", fn := fun _ => fun
  | [d1, d2, d3, d4] => { results := [.lit (.bool false)], args := [d1, d2, d3, d4] }
  | _ => none }
def TableAllWrongFalsely : Prop := tableAllRow.holds Try.pinned (OpenSpec.ofChange tableAllWrong)

/-- 'aquiferlaw9.IndexRuns': WHATEVER THE INPUT: true; the input reads as it did. -/
def indexRunsSpec : ChangeSpec := { name := "indexRuns", fn := fun _ => fun
  | [d1, d2] => { results := [.lit (.bool true)], args := [d1, d2] }
  | _ => none }
def indexRunsRow : OpenClaim := { program := "ytnoleekdldmagaa", sum := "8839f3d0f37b580c438e895edd6b8efd40ab8d8a8e66f45c8b1f7a98bf0386a2", func := "aquifer/aquiferlaw9.IndexRuns", spec := "indexRuns", inPlace := ["internal/bytealg.abigen_runtime_cmpstring"], unfollowed := true, recurses := true, apart := false }
def IndexRunsSaid : Prop := indexRunsRow.holds Try.pinned (OpenSpec.ofChange indexRunsSpec)

/-- ITS FALSE NEIGHBOUR: 'it returns false'. Refute it at one input. -/
def indexRunsWrong : ChangeSpec := { name := "indexRuns", fn := fun _ => fun
  | [d1, d2] => { results := [.lit (.bool false)], args := [d1, d2] }
  | _ => none }
def IndexRunsWrongFalsely : Prop := indexRunsRow.holds Try.pinned (OpenSpec.ofChange indexRunsWrong)

/-- 'aquiferlaw9.IndexAlike': WHATEVER THE INPUT: true; the input reads as it did. -/
def indexAlikeSpec : ChangeSpec := { name := "indexAlike", fn := fun _ => fun
  | [d1, d2, d3] => { results := [.lit (.bool true)], args := [d1, d2, d3] }
  | _ => none }
def indexAlikeRow : OpenClaim := { program := "ytnoleekdldmagaa", sum := "8839f3d0f37b580c438e895edd6b8efd40ab8d8a8e66f45c8b1f7a98bf0386a2", func := "aquifer/aquiferlaw9.IndexAlike", spec := "indexAlike", inPlace := ["internal/bytealg.abigen_runtime_cmpstring"], unfollowed := true, recurses := true, apart := false }
def IndexAlikeSaid : Prop := indexAlikeRow.holds Try.pinned (OpenSpec.ofChange indexAlikeSpec)

/-- ITS FALSE NEIGHBOUR: 'it returns false'. Refute it at one input. -/
def indexAlikeWrong : ChangeSpec := { name := "indexAlike", fn := fun _ => fun
  | [d1, d2, d3] => { results := [.lit (.bool false)], args := [d1, d2, d3] }
  | _ => none }
def IndexAlikeWrongFalsely : Prop := indexAlikeRow.holds Try.pinned (OpenSpec.ofChange indexAlikeWrong)

/-- 'aquiferlaw9.IndexNil': WHATEVER THE INPUT: true; the input reads as it did. -/
def indexNilSpec : ChangeSpec := { name := "indexNil", fn := fun _ => fun
  | [d] => { results := [.lit (.bool true)], args := [d] }
  | _ => none }
def indexNilRow : OpenClaim := { program := "ytnoleekdldmagaa", sum := "8839f3d0f37b580c438e895edd6b8efd40ab8d8a8e66f45c8b1f7a98bf0386a2", func := "aquifer/aquiferlaw9.IndexNil", spec := "indexNil", inPlace := ["internal/bytealg.abigen_runtime_cmpstring"], unfollowed := true, recurses := true, apart := false }
def IndexNilSaid : Prop := indexNilRow.holds Try.pinned (OpenSpec.ofChange indexNilSpec)

/-- ITS FALSE NEIGHBOUR: 'it returns false'. Refute it at one input. -/
def indexNilWrong : ChangeSpec := { name := "indexNil", fn := fun _ => fun
  | [d] => { results := [.lit (.bool false)], args := [d] }
  | _ => none }
def IndexNilWrongFalsely : Prop := indexNilRow.holds Try.pinned (OpenSpec.ofChange indexNilWrong)

/-- 'aquiferlaw8.SnapOther': WHATEVER THE INPUT: true; the input reads as it did. -/
def snapOtherSpec : ChangeSpec := { name := "snapOther", fn := fun _ => fun
  | [d1, d2] => { results := [.lit (.bool true)], args := [d1, d2] }
  | _ => none }
def snapOtherRow : OpenClaim := { program := "ytnoleekdldmagaa", sum := "8839f3d0f37b580c438e895edd6b8efd40ab8d8a8e66f45c8b1f7a98bf0386a2", func := "aquifer/aquiferlaw8.SnapOther", spec := "snapOther", inPlace := ["internal/bytealg.abigen_runtime_cmpstring", "slices.overlaps[*aquifer/disk.file]"], unfollowed := true, recurses := true, apart := false }
def SnapOtherSaid : Prop := snapOtherRow.holds Try.pinned (OpenSpec.ofChange snapOtherSpec)

/-- ITS FALSE NEIGHBOUR: 'it returns false'. Refute it at one input. -/
def snapOtherWrong : ChangeSpec := { name := "snapOther", fn := fun _ => fun
  | [d1, d2] => { results := [.lit (.bool false)], args := [d1, d2] }
  | _ => none }
def SnapOtherWrongFalsely : Prop := snapOtherRow.holds Try.pinned (OpenSpec.ofChange snapOtherWrong)

/-- 'aquiferlaw8.SnapKeeps': WHATEVER THE INPUT: true; the input reads as it did. -/
def snapKeepsSpec : ChangeSpec := { name := "snapKeeps", fn := fun _ => fun
  | [d1, d2, d3, d4, d5, d6] => { results := [.lit (.bool true)], args := [d1, d2, d3, d4, d5, d6] }
  | _ => none }
def snapKeepsRow : OpenClaim := { program := "ytnoleekdldmagaa", sum := "8839f3d0f37b580c438e895edd6b8efd40ab8d8a8e66f45c8b1f7a98bf0386a2", func := "aquifer/aquiferlaw8.SnapKeeps", spec := "snapKeeps", inPlace := ["internal/bytealg.abigen_runtime_cmpstring", "slices.overlaps[*aquifer/disk.file]"], unfollowed := true, recurses := true, apart := false }
def SnapKeepsSaid : Prop := snapKeepsRow.holds Try.pinned (OpenSpec.ofChange snapKeepsSpec)

/-- ITS FALSE NEIGHBOUR: 'it returns false'. Refute it at one input. -/
def snapKeepsWrong : ChangeSpec := { name := "snapKeeps", fn := fun _ => fun
  | [d1, d2, d3, d4, d5, d6] => { results := [.lit (.bool false)], args := [d1, d2, d3, d4, d5, d6] }
  | _ => none }
def SnapKeepsWrongFalsely : Prop := snapKeepsRow.holds Try.pinned (OpenSpec.ofChange snapKeepsWrong)

/-- 'aquiferlaw8.SnapFalls': WHATEVER THE INPUT: true; the input reads as it did. -/
def snapFallsSpec : ChangeSpec := { name := "snapFalls", fn := fun _ => fun
  | [d1, d2] => { results := [.lit (.bool true)], args := [d1, d2] }
  | _ => none }
def snapFallsRow : OpenClaim := { program := "ytnoleekdldmagaa", sum := "8839f3d0f37b580c438e895edd6b8efd40ab8d8a8e66f45c8b1f7a98bf0386a2", func := "aquifer/aquiferlaw8.SnapFalls", spec := "snapFalls", inPlace := ["internal/bytealg.abigen_runtime_cmpstring", "slices.overlaps[*aquifer/disk.file]"], unfollowed := true, recurses := true, apart := false }
def SnapFallsSaid : Prop := snapFallsRow.holds Try.pinned (OpenSpec.ofChange snapFallsSpec)

/-- ITS FALSE NEIGHBOUR: 'it returns false'. Refute it at one input. -/
def snapFallsWrong : ChangeSpec := { name := "snapFalls", fn := fun _ => fun
  | [d1, d2] => { results := [.lit (.bool false)], args := [d1, d2] }
  | _ => none }
def SnapFallsWrongFalsely : Prop := snapFallsRow.holds Try.pinned (OpenSpec.ofChange snapFallsWrong)

/-- 'aquiferlaw8.SnapRuns': WHATEVER THE INPUT: true; the input reads as it did. -/
def snapRunsSpec : ChangeSpec := { name := "snapRuns", fn := fun _ => fun
  | [d1, d2] => { results := [.lit (.bool true)], args := [d1, d2] }
  | _ => none }
def snapRunsRow : OpenClaim := { program := "ytnoleekdldmagaa", sum := "8839f3d0f37b580c438e895edd6b8efd40ab8d8a8e66f45c8b1f7a98bf0386a2", func := "aquifer/aquiferlaw8.SnapRuns", spec := "snapRuns", inPlace := ["internal/bytealg.abigen_runtime_cmpstring", "slices.overlaps[*aquifer/disk.file]"], unfollowed := true, recurses := true, apart := false }
def SnapRunsSaid : Prop := snapRunsRow.holds Try.pinned (OpenSpec.ofChange snapRunsSpec)

/-- ITS FALSE NEIGHBOUR: 'it returns false'. Refute it at one input. -/
def snapRunsWrong : ChangeSpec := { name := "snapRuns", fn := fun _ => fun
  | [d1, d2] => { results := [.lit (.bool false)], args := [d1, d2] }
  | _ => none }
def SnapRunsWrongFalsely : Prop := snapRunsRow.holds Try.pinned (OpenSpec.ofChange snapRunsWrong)

/- THE SECOND FORM. 'bulk': how many values and letters a reading holds, each counted each time it is reached (what is shared counts as often as it is met; a slice's spare places count too). A statement '..UptoSaid' is the law's where the arguments, and the package variables that the reading takes, are together of bulk at most 1048576: NARROWER than '..Said'. Prove '..Said' where nothing that the law and all that it calls make is longer than what came in: it says more and counts as full. Else prove '..UptoSaid'. A law counts once. -/
mutual
def uptoBulk {H : Type} : DataW H → Nat
  | .lit (.string bytes) => bytes.length + 1
  | .lit _ => 1
  | .nil => 1
  | .ptr d => uptoBulk d + 1
  | .slice elems spare => uptoBulkAll elems + uptoBulkAll spare + 1
  | .agg parts => uptoBulkAll parts + 1
  | .iface _ d => uptoBulk d + 1
  | .map entries => uptoBulkEntries entries + 1
  | .held _ => 1
def uptoBulkAll {H : Type} : List (DataW H) → Nat
  | [] => 0
  | d :: r => uptoBulk d + uptoBulkAll r
def uptoBulkEntries {H : Type} : List (Lit × DataW H) → Nat
  | [] => 0
  | x :: r => uptoBulkEntry x + uptoBulkEntries r
def uptoBulkEntry {H : Type} : Lit × DataW H → Nat
  | (.string bytes, d) => bytes.length + uptoBulk d + 1
  | (_, d) => uptoBulk d + 1
 end
def uptoSmall : (H : Type) → List (DataW H) → Bool := fun _ ds => decide (uptoBulkAll ds ≤ 1048576)
def OpenSpec.upto (s : _root_.Go.ChangeSpec) : _root_.Go.OpenSpec := { _root_.Go.OpenSpec.ofChange s with cond := some uptoSmall }

/-- 'aquiferlaw6.TableAgain', WHERE WHAT IT READS IS OF BULK AT MOST 1048576: true; the input reads as it did. -/
def tableAgainUptoRow : OpenClaim := { program := "ytnoleekdldmagaa", sum := "8839f3d0f37b580c438e895edd6b8efd40ab8d8a8e66f45c8b1f7a98bf0386a2", func := "aquifer/aquiferlaw6.TableAgain", spec := "tableAgain", inPlace := ["internal/bytealg.abigen_runtime_cmpstring", "slices.overlaps[aquifer/api.Pair]"], unfollowed := true, recurses := true, apart := false, narrowed := true }
def TableAgainUptoSaid : Prop := tableAgainUptoRow.holds Try.pinned (OpenSpec.upto tableAgainSpec)

/-- 'aquiferlaw6.TableTurns', WHERE WHAT IT READS IS OF BULK AT MOST 1048576: true; the input reads as it did. -/
def tableTurnsUptoRow : OpenClaim := { program := "ytnoleekdldmagaa", sum := "8839f3d0f37b580c438e895edd6b8efd40ab8d8a8e66f45c8b1f7a98bf0386a2", func := "aquifer/aquiferlaw6.TableTurns", spec := "tableTurns", inPlace := ["internal/bytealg.abigen_runtime_cmpstring", "slices.overlaps[aquifer/api.Pair]"], unfollowed := true, recurses := true, apart := false, narrowed := true }
def TableTurnsUptoSaid : Prop := tableTurnsUptoRow.holds Try.pinned (OpenSpec.upto tableTurnsSpec)

/-- 'aquiferlaw6.TableLast', WHERE WHAT IT READS IS OF BULK AT MOST 1048576: true; the input reads as it did. -/
def tableLastUptoRow : OpenClaim := { program := "ytnoleekdldmagaa", sum := "8839f3d0f37b580c438e895edd6b8efd40ab8d8a8e66f45c8b1f7a98bf0386a2", func := "aquifer/aquiferlaw6.TableLast", spec := "tableLast", inPlace := ["internal/bytealg.abigen_runtime_cmpstring", "slices.overlaps[aquifer/api.Pair]"], unfollowed := true, recurses := true, apart := false, narrowed := true }
def TableLastUptoSaid : Prop := tableLastUptoRow.holds Try.pinned (OpenSpec.upto tableLastSpec)

/-- 'aquiferlaw1.DiskFails', WHERE WHAT IT READS IS OF BULK AT MOST 1048576: true; the input reads as it did. -/
def diskFailsUptoRow : OpenClaim := { program := "ytnoleekdldmagaa", sum := "8839f3d0f37b580c438e895edd6b8efd40ab8d8a8e66f45c8b1f7a98bf0386a2", func := "aquifer/aquiferlaw1.DiskFails", spec := "diskFails", inPlace := ["internal/bytealg.abigen_runtime_cmpstring", "slices.overlaps[*aquifer/disk.file]"], unfollowed := true, recurses := true, apart := false, narrowed := true }
def DiskFailsUptoSaid : Prop := diskFailsUptoRow.holds Try.pinned (OpenSpec.upto diskFailsSpec)

/-- 'aquiferlaw1.DiskApart', WHERE WHAT IT READS IS OF BULK AT MOST 1048576: true; the input reads as it did. -/
def diskApartUptoRow : OpenClaim := { program := "ytnoleekdldmagaa", sum := "8839f3d0f37b580c438e895edd6b8efd40ab8d8a8e66f45c8b1f7a98bf0386a2", func := "aquifer/aquiferlaw1.DiskApart", spec := "diskApart", inPlace := ["internal/bytealg.abigen_runtime_cmpstring", "slices.overlaps[*aquifer/disk.file]"], unfollowed := true, recurses := true, apart := false, narrowed := true }
def DiskApartUptoSaid : Prop := diskApartUptoRow.holds Try.pinned (OpenSpec.upto diskApartSpec)

/-- 'aquiferlaw1.DiskCuts', WHERE WHAT IT READS IS OF BULK AT MOST 1048576: true; the input reads as it did. -/
def diskCutsUptoRow : OpenClaim := { program := "ytnoleekdldmagaa", sum := "8839f3d0f37b580c438e895edd6b8efd40ab8d8a8e66f45c8b1f7a98bf0386a2", func := "aquifer/aquiferlaw1.DiskCuts", spec := "diskCuts", inPlace := ["internal/bytealg.abigen_runtime_cmpstring", "slices.overlaps[*aquifer/disk.file]"], unfollowed := true, recurses := true, apart := false, narrowed := true }
def DiskCutsUptoSaid : Prop := diskCutsUptoRow.holds Try.pinned (OpenSpec.upto diskCutsSpec)

/-- 'aquiferlaw1.DiskKeeps', WHERE WHAT IT READS IS OF BULK AT MOST 1048576: true; the input reads as it did. -/
def diskKeepsUptoRow : OpenClaim := { program := "ytnoleekdldmagaa", sum := "8839f3d0f37b580c438e895edd6b8efd40ab8d8a8e66f45c8b1f7a98bf0386a2", func := "aquifer/aquiferlaw1.DiskKeeps", spec := "diskKeeps", inPlace := ["internal/bytealg.abigen_runtime_cmpstring", "slices.overlaps[*aquifer/disk.file]"], unfollowed := true, recurses := true, apart := false, narrowed := true }
def DiskKeepsUptoSaid : Prop := diskKeepsUptoRow.holds Try.pinned (OpenSpec.upto diskKeepsSpec)

/-- 'aquiferlaw1.DiskStops', WHERE WHAT IT READS IS OF BULK AT MOST 1048576: true; the input reads as it did. -/
def diskStopsUptoRow : OpenClaim := { program := "ytnoleekdldmagaa", sum := "8839f3d0f37b580c438e895edd6b8efd40ab8d8a8e66f45c8b1f7a98bf0386a2", func := "aquifer/aquiferlaw1.DiskStops", spec := "diskStops", inPlace := ["internal/bytealg.abigen_runtime_cmpstring", "slices.overlaps[*aquifer/disk.file]"], unfollowed := true, recurses := true, apart := false, narrowed := true }
def DiskStopsUptoSaid : Prop := diskStopsUptoRow.holds Try.pinned (OpenSpec.upto diskStopsSpec)

/-- 'aquiferlaw1.DiskRenames', WHERE WHAT IT READS IS OF BULK AT MOST 1048576: true; the input reads as it did. -/
def diskRenamesUptoRow : OpenClaim := { program := "ytnoleekdldmagaa", sum := "8839f3d0f37b580c438e895edd6b8efd40ab8d8a8e66f45c8b1f7a98bf0386a2", func := "aquifer/aquiferlaw1.DiskRenames", spec := "diskRenames", inPlace := ["internal/bytealg.abigen_runtime_cmpstring", "slices.overlaps[*aquifer/disk.file]"], unfollowed := true, recurses := true, apart := false, narrowed := true }
def DiskRenamesUptoSaid : Prop := diskRenamesUptoRow.holds Try.pinned (OpenSpec.upto diskRenamesSpec)

/-- 'aquiferlaw1.DiskLists', WHERE WHAT IT READS IS OF BULK AT MOST 1048576: true; the input reads as it did. -/
def diskListsUptoRow : OpenClaim := { program := "ytnoleekdldmagaa", sum := "8839f3d0f37b580c438e895edd6b8efd40ab8d8a8e66f45c8b1f7a98bf0386a2", func := "aquifer/aquiferlaw1.DiskLists", spec := "diskLists", inPlace := ["internal/bytealg.abigen_runtime_cmpstring", "slices.overlaps[*aquifer/disk.file]"], unfollowed := true, recurses := true, apart := false, narrowed := true }
def DiskListsUptoSaid : Prop := diskListsUptoRow.holds Try.pinned (OpenSpec.upto diskListsSpec)

/-- 'aquiferlaw1.DiskRuns', WHERE WHAT IT READS IS OF BULK AT MOST 1048576: true; the input reads as it did. -/
def diskRunsUptoRow : OpenClaim := { program := "ytnoleekdldmagaa", sum := "8839f3d0f37b580c438e895edd6b8efd40ab8d8a8e66f45c8b1f7a98bf0386a2", func := "aquifer/aquiferlaw1.DiskRuns", spec := "diskRuns", inPlace := ["internal/bytealg.abigen_runtime_cmpstring", "slices.overlaps[*aquifer/disk.file]"], unfollowed := true, recurses := true, apart := false, narrowed := true }
def DiskRunsUptoSaid : Prop := diskRunsUptoRow.holds Try.pinned (OpenSpec.upto diskRunsSpec)

/-- 'aquiferlaw1.DiskNil', WHERE WHAT IT READS IS OF BULK AT MOST 1048576: true; the input reads as it did. -/
def diskNilUptoRow : OpenClaim := { program := "ytnoleekdldmagaa", sum := "8839f3d0f37b580c438e895edd6b8efd40ab8d8a8e66f45c8b1f7a98bf0386a2", func := "aquifer/aquiferlaw1.DiskNil", spec := "diskNil", inPlace := ["internal/bytealg.abigen_runtime_cmpstring", "slices.overlaps[*aquifer/disk.file]"], unfollowed := true, recurses := true, apart := false, narrowed := true }
def DiskNilUptoSaid : Prop := diskNilUptoRow.holds Try.pinned (OpenSpec.upto diskNilSpec)

/-- 'aquiferlaw6.TableBack', WHERE WHAT IT READS IS OF BULK AT MOST 1048576: true; the input reads as it did. -/
def tableBackUptoRow : OpenClaim := { program := "ytnoleekdldmagaa", sum := "8839f3d0f37b580c438e895edd6b8efd40ab8d8a8e66f45c8b1f7a98bf0386a2", func := "aquifer/aquiferlaw6.TableBack", spec := "tableBack", inPlace := ["internal/bytealg.abigen_runtime_cmpstring", "slices.overlaps[aquifer/api.Pair]"], unfollowed := true, recurses := true, apart := false, narrowed := true }
def TableBackUptoSaid : Prop := tableBackUptoRow.holds Try.pinned (OpenSpec.upto tableBackSpec)

/-- 'aquiferlaw6.TableAll', WHERE WHAT IT READS IS OF BULK AT MOST 1048576: true; the input reads as it did. -/
def tableAllUptoRow : OpenClaim := { program := "ytnoleekdldmagaa", sum := "8839f3d0f37b580c438e895edd6b8efd40ab8d8a8e66f45c8b1f7a98bf0386a2", func := "aquifer/aquiferlaw6.TableAll", spec := "tableAll", inPlace := ["internal/bytealg.abigen_runtime_cmpstring", "slices.overlaps[aquifer/api.Pair]"], unfollowed := true, recurses := true, apart := false, narrowed := true }
def TableAllUptoSaid : Prop := tableAllUptoRow.holds Try.pinned (OpenSpec.upto tableAllSpec)

/-- 'aquiferlaw9.IndexRuns', WHERE WHAT IT READS IS OF BULK AT MOST 1048576: true; the input reads as it did. -/
def indexRunsUptoRow : OpenClaim := { program := "ytnoleekdldmagaa", sum := "8839f3d0f37b580c438e895edd6b8efd40ab8d8a8e66f45c8b1f7a98bf0386a2", func := "aquifer/aquiferlaw9.IndexRuns", spec := "indexRuns", inPlace := ["internal/bytealg.abigen_runtime_cmpstring"], unfollowed := true, recurses := true, apart := false, narrowed := true }
def IndexRunsUptoSaid : Prop := indexRunsUptoRow.holds Try.pinned (OpenSpec.upto indexRunsSpec)

/-- 'aquiferlaw9.IndexAlike', WHERE WHAT IT READS IS OF BULK AT MOST 1048576: true; the input reads as it did. -/
def indexAlikeUptoRow : OpenClaim := { program := "ytnoleekdldmagaa", sum := "8839f3d0f37b580c438e895edd6b8efd40ab8d8a8e66f45c8b1f7a98bf0386a2", func := "aquifer/aquiferlaw9.IndexAlike", spec := "indexAlike", inPlace := ["internal/bytealg.abigen_runtime_cmpstring"], unfollowed := true, recurses := true, apart := false, narrowed := true }
def IndexAlikeUptoSaid : Prop := indexAlikeUptoRow.holds Try.pinned (OpenSpec.upto indexAlikeSpec)

/-- 'aquiferlaw9.IndexNil', WHERE WHAT IT READS IS OF BULK AT MOST 1048576: true; the input reads as it did. -/
def indexNilUptoRow : OpenClaim := { program := "ytnoleekdldmagaa", sum := "8839f3d0f37b580c438e895edd6b8efd40ab8d8a8e66f45c8b1f7a98bf0386a2", func := "aquifer/aquiferlaw9.IndexNil", spec := "indexNil", inPlace := ["internal/bytealg.abigen_runtime_cmpstring"], unfollowed := true, recurses := true, apart := false, narrowed := true }
def IndexNilUptoSaid : Prop := indexNilUptoRow.holds Try.pinned (OpenSpec.upto indexNilSpec)

/-- 'aquiferlaw8.SnapOther', WHERE WHAT IT READS IS OF BULK AT MOST 1048576: true; the input reads as it did. -/
def snapOtherUptoRow : OpenClaim := { program := "ytnoleekdldmagaa", sum := "8839f3d0f37b580c438e895edd6b8efd40ab8d8a8e66f45c8b1f7a98bf0386a2", func := "aquifer/aquiferlaw8.SnapOther", spec := "snapOther", inPlace := ["internal/bytealg.abigen_runtime_cmpstring", "slices.overlaps[*aquifer/disk.file]"], unfollowed := true, recurses := true, apart := false, narrowed := true }
def SnapOtherUptoSaid : Prop := snapOtherUptoRow.holds Try.pinned (OpenSpec.upto snapOtherSpec)

/-- 'aquiferlaw8.SnapKeeps', WHERE WHAT IT READS IS OF BULK AT MOST 1048576: true; the input reads as it did. -/
def snapKeepsUptoRow : OpenClaim := { program := "ytnoleekdldmagaa", sum := "8839f3d0f37b580c438e895edd6b8efd40ab8d8a8e66f45c8b1f7a98bf0386a2", func := "aquifer/aquiferlaw8.SnapKeeps", spec := "snapKeeps", inPlace := ["internal/bytealg.abigen_runtime_cmpstring", "slices.overlaps[*aquifer/disk.file]"], unfollowed := true, recurses := true, apart := false, narrowed := true }
def SnapKeepsUptoSaid : Prop := snapKeepsUptoRow.holds Try.pinned (OpenSpec.upto snapKeepsSpec)

/-- 'aquiferlaw8.SnapFalls', WHERE WHAT IT READS IS OF BULK AT MOST 1048576: true; the input reads as it did. -/
def snapFallsUptoRow : OpenClaim := { program := "ytnoleekdldmagaa", sum := "8839f3d0f37b580c438e895edd6b8efd40ab8d8a8e66f45c8b1f7a98bf0386a2", func := "aquifer/aquiferlaw8.SnapFalls", spec := "snapFalls", inPlace := ["internal/bytealg.abigen_runtime_cmpstring", "slices.overlaps[*aquifer/disk.file]"], unfollowed := true, recurses := true, apart := false, narrowed := true }
def SnapFallsUptoSaid : Prop := snapFallsUptoRow.holds Try.pinned (OpenSpec.upto snapFallsSpec)

/-- 'aquiferlaw8.SnapRuns', WHERE WHAT IT READS IS OF BULK AT MOST 1048576: true; the input reads as it did. -/
def snapRunsUptoRow : OpenClaim := { program := "ytnoleekdldmagaa", sum := "8839f3d0f37b580c438e895edd6b8efd40ab8d8a8e66f45c8b1f7a98bf0386a2", func := "aquifer/aquiferlaw8.SnapRuns", spec := "snapRuns", inPlace := ["internal/bytealg.abigen_runtime_cmpstring", "slices.overlaps[*aquifer/disk.file]"], unfollowed := true, recurses := true, apart := false, narrowed := true }
def SnapRunsUptoSaid : Prop := snapRunsUptoRow.holds Try.pinned (OpenSpec.upto snapRunsSpec)

end Rows
end Go.Proofs.Ytnoleekdldmagaa
