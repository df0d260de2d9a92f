/-
  No cell of these rows narrows 'for every input' (looked for: loops, veiled, ifaces, maps, wideKeys, modest, calm, conditions, laid).
  DERIVED. THE GIVEN ROWS OF THIS SEAT. 8 by the template 'for every input the law returns true; each argument reads behind the call as it read before'; 0 by the template 'total and deterministic' (their statements: YtfbnkbdolimojaaTotals.lean).
  GIVEN WITH THE SEED: the statements are not yours to turn. If you find one false, say at which input.
  Laid BY PROGRAM, IN A SANDBOX (cutbox-rows.mjs): the forced cells as the released guide's own fill.sh prints them over the translation c263a1a4d2e345de… (all of the seat's roots in one cut). By AI agents, Wed Nov 11 2026. No macro, syntax, notation, axiom, sorry.
-/
import Derived.Test.YtfbnkbdolimojaaChecked
import GoSem.Claim
import GoSem.ClaimJoined
import GoSem.ClaimMapViews
import Derived.JoinedTies
import Derived.KernelRfl
namespace Go.Proofs.Ytfbnkbdolimojaa
/- THE CELL 'sum', in the pinned program and in every row, IS THE sha256 OF THE DUMP (.gsa) THAT YtfbnkbdolimojaaProg.lean LOADS. Nothing in Lean hashes anything: it is a label: what it is worth is what the hold of that sum in a sandbox is worth. -/
noncomputable def Try.pinned : Pinned := { name := "ytfbnkbdolimojaa", sum := "c263a1a4d2e345def0f7baa6c697052c6dffb4be99b48688db9563311b4f87b7", checked := Try.checked }
namespace Rows
def none {H : Type} : Left H := { results := [], args := [] }

/-- 'aquiferlaw1.DiskRuns': WHATEVER THE INPUT: true; the input reads as it did. -/
def diskRunsSpec : ChangeSpec := { name := "diskRuns", fn := fun _ => fun
  | [d1, d2] => { results := [.lit (.bool true)], args := [d1, d2] }
  | _ => none }
def diskRunsRow : OpenClaim := { program := "ytfbnkbdolimojaa", sum := "c263a1a4d2e345def0f7baa6c697052c6dffb4be99b48688db9563311b4f87b7", func := "aquifer/aquiferlaw1.DiskRuns", spec := "diskRuns", inPlace := ["internal/bytealg.abigen_runtime_cmpstring", "slices.overlaps[*aquifer/disk.file]"], unfollowed := true, recurses := true, apart := false }
def DiskRunsSaid : Prop := diskRunsRow.holds Try.pinned (OpenSpec.ofChange diskRunsSpec)

/-- ITS FALSE NEIGHBOUR: 'it returns false'. Refute it at one input. -/
def diskRunsWrong : ChangeSpec := { name := "diskRuns", fn := fun _ => fun
  | [d1, d2] => { results := [.lit (.bool false)], args := [d1, d2] }
  | _ => none }
def DiskRunsWrongFalsely : Prop := diskRunsRow.holds Try.pinned (OpenSpec.ofChange diskRunsWrong)

/-- 'aquiferlaw6.TableAll': WHATEVER THE INPUT: true; the input reads as it did. -/
def tableAllSpec : ChangeSpec := { name := "tableAll", fn := fun _ => fun
  | [d1, d2, d3, d4] => { results := [.lit (.bool true)], args := [d1, d2, d3, d4] }
  | _ => none }
def tableAllRow : OpenClaim := { program := "ytfbnkbdolimojaa", sum := "c263a1a4d2e345def0f7baa6c697052c6dffb4be99b48688db9563311b4f87b7", func := "aquifer/aquiferlaw6.TableAll", spec := "tableAll", inPlace := ["internal/bytealg.abigen_runtime_cmpstring", "slices.overlaps[aquifer/api.Pair]"], unfollowed := true, recurses := true, apart := false }
def TableAllSaid : Prop := tableAllRow.holds Try.pinned (OpenSpec.ofChange tableAllSpec)

/-- ITS FALSE NEIGHBOUR: 'it returns false'. Refute it at one input. -/
def tableAllWrong : ChangeSpec := { name := "tableAll", fn := fun _ => fun
  | [d1, d2, d3, d4] => { results := [.lit (.bool false)], args := [d1, d2, d3, d4] }
  | _ => none }
def TableAllWrongFalsely : Prop := tableAllRow.holds Try.pinned (OpenSpec.ofChange tableAllWrong)

/-- 'aquiferlaw9.IndexRuns': WHATEVER THE INPUT: true; the input reads as it did. -/
def indexRunsSpec : ChangeSpec := { name := "indexRuns", fn := fun _ => fun
  | [d1, d2] => { results := [.lit (.bool true)], args := [d1, d2] }
  | _ => none }
def indexRunsRow : OpenClaim := { program := "ytfbnkbdolimojaa", sum := "c263a1a4d2e345def0f7baa6c697052c6dffb4be99b48688db9563311b4f87b7", func := "aquifer/aquiferlaw9.IndexRuns", spec := "indexRuns", inPlace := ["internal/bytealg.abigen_runtime_cmpstring"], unfollowed := true, recurses := true, apart := false }
def IndexRunsSaid : Prop := indexRunsRow.holds Try.pinned (OpenSpec.ofChange indexRunsSpec)

/-- ITS FALSE NEIGHBOUR: 'it returns false'. Refute it at one input. -/
def indexRunsWrong : ChangeSpec := { name := "indexRuns", fn := fun _ => fun
  | [d1, d2] => { results := [.lit (.bool false)], args := [d1, d2] }
  | _ => none }
def IndexRunsWrongFalsely : Prop := indexRunsRow.holds Try.pinned (OpenSpec.ofChange indexRunsWrong)

/-- 'aquiferlaw9.IndexAlike': WHATEVER THE INPUT: true; the input reads as it did. -/
def indexAlikeSpec : ChangeSpec := { name := "indexAlike", fn := fun _ => fun
  | [d1, d2, d3] => { results := [.lit (.bool true)], args := [d1, d2, d3] }
  | _ => none }
def indexAlikeRow : OpenClaim := { program := "ytfbnkbdolimojaa", sum := "c263a1a4d2e345def0f7baa6c697052c6dffb4be99b48688db9563311b4f87b7", func := "aquifer/aquiferlaw9.IndexAlike", spec := "indexAlike", inPlace := ["internal/bytealg.abigen_runtime_cmpstring"], unfollowed := true, recurses := true, apart := false }
def IndexAlikeSaid : Prop := indexAlikeRow.holds Try.pinned (OpenSpec.ofChange indexAlikeSpec)

/-- ITS FALSE NEIGHBOUR: 'it returns false'. Refute it at one input. -/
def indexAlikeWrong : ChangeSpec := { name := "indexAlike", fn := fun _ => fun
  | [d1, d2, d3] => { results := [.lit (.bool false)], args := [d1, d2, d3] }
  | _ => none }
def IndexAlikeWrongFalsely : Prop := indexAlikeRow.holds Try.pinned (OpenSpec.ofChange indexAlikeWrong)

/-- 'aquiferlaw9.IndexNil': WHATEVER THE INPUT: true; the input reads as it did. -/
def indexNilSpec : ChangeSpec := { name := "indexNil", fn := fun _ => fun
  | [d] => { results := [.lit (.bool true)], args := [d] }
  | _ => none }
def indexNilRow : OpenClaim := { program := "ytfbnkbdolimojaa", sum := "c263a1a4d2e345def0f7baa6c697052c6dffb4be99b48688db9563311b4f87b7", func := "aquifer/aquiferlaw9.IndexNil", spec := "indexNil", inPlace := ["internal/bytealg.abigen_runtime_cmpstring"], unfollowed := true, recurses := true, apart := false }
def IndexNilSaid : Prop := indexNilRow.holds Try.pinned (OpenSpec.ofChange indexNilSpec)

/-- ITS FALSE NEIGHBOUR: 'it returns false'. Refute it at one input. -/
def indexNilWrong : ChangeSpec := { name := "indexNil", fn := fun _ => fun
  | [d] => { results := [.lit (.bool false)], args := [d] }
  | _ => none }
def IndexNilWrongFalsely : Prop := indexNilRow.holds Try.pinned (OpenSpec.ofChange indexNilWrong)

/-- 'aquiferlaw8.SnapKeeps': WHATEVER THE INPUT: true; the input reads as it did. -/
def snapKeepsSpec : ChangeSpec := { name := "snapKeeps", fn := fun _ => fun
  | [d1, d2, d3, d4, d5, d6] => { results := [.lit (.bool true)], args := [d1, d2, d3, d4, d5, d6] }
  | _ => none }
def snapKeepsRow : OpenClaim := { program := "ytfbnkbdolimojaa", sum := "c263a1a4d2e345def0f7baa6c697052c6dffb4be99b48688db9563311b4f87b7", func := "aquifer/aquiferlaw8.SnapKeeps", spec := "snapKeeps", inPlace := ["internal/bytealg.abigen_runtime_cmpstring", "slices.overlaps[*aquifer/disk.file]"], unfollowed := true, recurses := true, apart := false }
def SnapKeepsSaid : Prop := snapKeepsRow.holds Try.pinned (OpenSpec.ofChange snapKeepsSpec)

/-- ITS FALSE NEIGHBOUR: 'it returns false'. Refute it at one input. -/
def snapKeepsWrong : ChangeSpec := { name := "snapKeeps", fn := fun _ => fun
  | [d1, d2, d3, d4, d5, d6] => { results := [.lit (.bool false)], args := [d1, d2, d3, d4, d5, d6] }
  | _ => none }
def SnapKeepsWrongFalsely : Prop := snapKeepsRow.holds Try.pinned (OpenSpec.ofChange snapKeepsWrong)

/-- 'aquiferlaw8.SnapFalls': WHATEVER THE INPUT: true; the input reads as it did. -/
def snapFallsSpec : ChangeSpec := { name := "snapFalls", fn := fun _ => fun
  | [d1, d2] => { results := [.lit (.bool true)], args := [d1, d2] }
  | _ => none }
def snapFallsRow : OpenClaim := { program := "ytfbnkbdolimojaa", sum := "c263a1a4d2e345def0f7baa6c697052c6dffb4be99b48688db9563311b4f87b7", func := "aquifer/aquiferlaw8.SnapFalls", spec := "snapFalls", inPlace := ["internal/bytealg.abigen_runtime_cmpstring", "slices.overlaps[*aquifer/disk.file]"], unfollowed := true, recurses := true, apart := false }
def SnapFallsSaid : Prop := snapFallsRow.holds Try.pinned (OpenSpec.ofChange snapFallsSpec)

/-- ITS FALSE NEIGHBOUR: 'it returns false'. Refute it at one input. -/
def snapFallsWrong : ChangeSpec := { name := "snapFalls", fn := fun _ => fun
  | [d1, d2] => { results := [.lit (.bool false)], args := [d1, d2] }
  | _ => none }
def SnapFallsWrongFalsely : Prop := snapFallsRow.holds Try.pinned (OpenSpec.ofChange snapFallsWrong)

/-- 'aquiferlaw8.SnapRuns': WHATEVER THE INPUT: true; the input reads as it did. -/
def snapRunsSpec : ChangeSpec := { name := "snapRuns", fn := fun _ => fun
  | [d1, d2] => { results := [.lit (.bool true)], args := [d1, d2] }
  | _ => none }
def snapRunsRow : OpenClaim := { program := "ytfbnkbdolimojaa", sum := "c263a1a4d2e345def0f7baa6c697052c6dffb4be99b48688db9563311b4f87b7", func := "aquifer/aquiferlaw8.SnapRuns", spec := "snapRuns", inPlace := ["internal/bytealg.abigen_runtime_cmpstring", "slices.overlaps[*aquifer/disk.file]"], unfollowed := true, recurses := true, apart := false }
def SnapRunsSaid : Prop := snapRunsRow.holds Try.pinned (OpenSpec.ofChange snapRunsSpec)

/-- ITS FALSE NEIGHBOUR: 'it returns false'. Refute it at one input. -/
def snapRunsWrong : ChangeSpec := { name := "snapRuns", fn := fun _ => fun
  | [d1, d2] => { results := [.lit (.bool false)], args := [d1, d2] }
  | _ => none }
def SnapRunsWrongFalsely : Prop := snapRunsRow.holds Try.pinned (OpenSpec.ofChange snapRunsWrong)

/- THE SECOND FORM. 'bulk': how many values and letters a reading holds, each counted each time it is reached (what is shared counts as often as it is met; a slice's spare places count too). A statement '..UptoSaid' is the law's where the arguments, and the package variables that the reading takes, are together of bulk at most 1048576: NARROWER than '..Said'. Prove '..Said' where nothing that the law and all that it calls make is longer than what came in: it says more and counts as full. Else prove '..UptoSaid'. A law counts once. -/
mutual
def uptoBulk {H : Type} : DataW H → Nat
  | .lit (.string bytes) => bytes.length + 1
  | .lit _ => 1
  | .nil => 1
  | .ptr d => uptoBulk d + 1
  | .slice elems spare => uptoBulkAll elems + uptoBulkAll spare + 1
  | .agg parts => uptoBulkAll parts + 1
  | .iface _ d => uptoBulk d + 1
  | .map entries => uptoBulkEntries entries + 1
  | .held _ => 1
def uptoBulkAll {H : Type} : List (DataW H) → Nat
  | [] => 0
  | d :: r => uptoBulk d + uptoBulkAll r
def uptoBulkEntries {H : Type} : List (Lit × DataW H) → Nat
  | [] => 0
  | x :: r => uptoBulkEntry x + uptoBulkEntries r
def uptoBulkEntry {H : Type} : Lit × DataW H → Nat
  | (.string bytes, d) => bytes.length + uptoBulk d + 1
  | (_, d) => uptoBulk d + 1
 end
def uptoSmall : (H : Type) → List (DataW H) → Bool := fun _ ds => decide (uptoBulkAll ds ≤ 1048576)
def OpenSpec.upto (s : _root_.Go.ChangeSpec) : _root_.Go.OpenSpec := { _root_.Go.OpenSpec.ofChange s with cond := some uptoSmall }

/-- 'aquiferlaw1.DiskRuns', WHERE WHAT IT READS IS OF BULK AT MOST 1048576: true; the input reads as it did. -/
def diskRunsUptoRow : OpenClaim := { program := "ytfbnkbdolimojaa", sum := "c263a1a4d2e345def0f7baa6c697052c6dffb4be99b48688db9563311b4f87b7", func := "aquifer/aquiferlaw1.DiskRuns", spec := "diskRuns", inPlace := ["internal/bytealg.abigen_runtime_cmpstring", "slices.overlaps[*aquifer/disk.file]"], unfollowed := true, recurses := true, apart := false, narrowed := true }
def DiskRunsUptoSaid : Prop := diskRunsUptoRow.holds Try.pinned (OpenSpec.upto diskRunsSpec)

/-- 'aquiferlaw6.TableAll', WHERE WHAT IT READS IS OF BULK AT MOST 1048576: true; the input reads as it did. -/
def tableAllUptoRow : OpenClaim := { program := "ytfbnkbdolimojaa", sum := "c263a1a4d2e345def0f7baa6c697052c6dffb4be99b48688db9563311b4f87b7", func := "aquifer/aquiferlaw6.TableAll", spec := "tableAll", inPlace := ["internal/bytealg.abigen_runtime_cmpstring", "slices.overlaps[aquifer/api.Pair]"], unfollowed := true, recurses := true, apart := false, narrowed := true }
def TableAllUptoSaid : Prop := tableAllUptoRow.holds Try.pinned (OpenSpec.upto tableAllSpec)

/-- 'aquiferlaw9.IndexRuns', WHERE WHAT IT READS IS OF BULK AT MOST 1048576: true; the input reads as it did. -/
def indexRunsUptoRow : OpenClaim := { program := "ytfbnkbdolimojaa", sum := "c263a1a4d2e345def0f7baa6c697052c6dffb4be99b48688db9563311b4f87b7", func := "aquifer/aquiferlaw9.IndexRuns", spec := "indexRuns", inPlace := ["internal/bytealg.abigen_runtime_cmpstring"], unfollowed := true, recurses := true, apart := false, narrowed := true }
def IndexRunsUptoSaid : Prop := indexRunsUptoRow.holds Try.pinned (OpenSpec.upto indexRunsSpec)

/-- 'aquiferlaw9.IndexAlike', WHERE WHAT IT READS IS OF BULK AT MOST 1048576: true; the input reads as it did. -/
def indexAlikeUptoRow : OpenClaim := { program := "ytfbnkbdolimojaa", sum := "c263a1a4d2e345def0f7baa6c697052c6dffb4be99b48688db9563311b4f87b7", func := "aquifer/aquiferlaw9.IndexAlike", spec := "indexAlike", inPlace := ["internal/bytealg.abigen_runtime_cmpstring"], unfollowed := true, recurses := true, apart := false, narrowed := true }
def IndexAlikeUptoSaid : Prop := indexAlikeUptoRow.holds Try.pinned (OpenSpec.upto indexAlikeSpec)

/-- 'aquiferlaw9.IndexNil', WHERE WHAT IT READS IS OF BULK AT MOST 1048576: true; the input reads as it did. -/
def indexNilUptoRow : OpenClaim := { program := "ytfbnkbdolimojaa", sum := "c263a1a4d2e345def0f7baa6c697052c6dffb4be99b48688db9563311b4f87b7", func := "aquifer/aquiferlaw9.IndexNil", spec := "indexNil", inPlace := ["internal/bytealg.abigen_runtime_cmpstring"], unfollowed := true, recurses := true, apart := false, narrowed := true }
def IndexNilUptoSaid : Prop := indexNilUptoRow.holds Try.pinned (OpenSpec.upto indexNilSpec)

/-- 'aquiferlaw8.SnapKeeps', WHERE WHAT IT READS IS OF BULK AT MOST 1048576: true; the input reads as it did. -/
def snapKeepsUptoRow : OpenClaim := { program := "ytfbnkbdolimojaa", sum := "c263a1a4d2e345def0f7baa6c697052c6dffb4be99b48688db9563311b4f87b7", func := "aquifer/aquiferlaw8.SnapKeeps", spec := "snapKeeps", inPlace := ["internal/bytealg.abigen_runtime_cmpstring", "slices.overlaps[*aquifer/disk.file]"], unfollowed := true, recurses := true, apart := false, narrowed := true }
def SnapKeepsUptoSaid : Prop := snapKeepsUptoRow.holds Try.pinned (OpenSpec.upto snapKeepsSpec)

/-- 'aquiferlaw8.SnapFalls', WHERE WHAT IT READS IS OF BULK AT MOST 1048576: true; the input reads as it did. -/
def snapFallsUptoRow : OpenClaim := { program := "ytfbnkbdolimojaa", sum := "c263a1a4d2e345def0f7baa6c697052c6dffb4be99b48688db9563311b4f87b7", func := "aquifer/aquiferlaw8.SnapFalls", spec := "snapFalls", inPlace := ["internal/bytealg.abigen_runtime_cmpstring", "slices.overlaps[*aquifer/disk.file]"], unfollowed := true, recurses := true, apart := false, narrowed := true }
def SnapFallsUptoSaid : Prop := snapFallsUptoRow.holds Try.pinned (OpenSpec.upto snapFallsSpec)

/-- 'aquiferlaw8.SnapRuns', WHERE WHAT IT READS IS OF BULK AT MOST 1048576: true; the input reads as it did. -/
def snapRunsUptoRow : OpenClaim := { program := "ytfbnkbdolimojaa", sum := "c263a1a4d2e345def0f7baa6c697052c6dffb4be99b48688db9563311b4f87b7", func := "aquifer/aquiferlaw8.SnapRuns", spec := "snapRuns", inPlace := ["internal/bytealg.abigen_runtime_cmpstring", "slices.overlaps[*aquifer/disk.file]"], unfollowed := true, recurses := true, apart := false, narrowed := true }
def SnapRunsUptoSaid : Prop := snapRunsUptoRow.holds Try.pinned (OpenSpec.upto snapRunsSpec)

end Rows
end Go.Proofs.Ytfbnkbdolimojaa
