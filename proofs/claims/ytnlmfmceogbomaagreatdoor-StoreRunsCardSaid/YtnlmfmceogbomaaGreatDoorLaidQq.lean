/- The three tables of the library that the rows list; a world that holds them. -/
import Derived.Test.YtnlmfmceogbomaaGreatDoorCards
import Derived.Test.YtnlmfmceogbomaaGreatDoorTie
import Derived.Deep.DeepHandedRow
import Derived.Lib.LaidTab
import Derived.LaidSub
import Derived.Test.YtnlmfmceogbomaaGreatDoorBatAQq
namespace Go.Proofs.YtnlmfmceogbomaaGreatDoor
open Go.RowKit
set_option linter.unusedVariables false

def laidAll : List (String × DataW Unit) := [("math/bits.deBruijn32tab", Rows.laid_math_bits_deBruijn32tab), ("math/bits.deBruijn64tab", Rows.laid_math_bits_deBruijn64tab), ("internal/strconv.uint64pow10", Rows.laid_internal_strconv_uint64pow10)]
theorem gTens : Tryz.prog.globalNamed "internal/strconv.uint64pow10" = some 1 := by kernel_rfl
theorem gTensType : (Tryz.prog.globals[1]?).map (·.type) = some 230 := by kernel_rfl
theorem tens_cells : Tryz.prog.cellsOf 230 = 20 := by kernel_rfl
theorem ten_cell : Tryz.prog.cellsOf 204 = 1 := by kernel_rfl
theorem laid_tens : (laidAll.filter fun x => x.1 == "internal/strconv.uint64pow10") = [("internal/strconv.uint64pow10", Lib.tabData .u64 Lib.pow10Tab)] := by kernel_rfl
/-- What the rows' list gives. -/
theorem tabW_of {W : World} (h : laidMetH Tryz.prog laidAll W) : TabW W := by
  have h2 := h.filter (fun x => x.1 == "internal/strconv.uint64pow10")
  rw [laid_tens] at h2
  exact Lib.tabIs_of_head (rest := []) gTens gTensType Tryz.underlying230 Tryz.underlying204 ten_cell tens_cells h2
def litV : DataW Unit → Value
  | .lit (.int k z) => .int k z
  | _ => .bool false
def dataV : DataW Unit → Array Value
  | .agg l => (l.map litV).toArray
  | _ => #[]
def putV (d : DataW Unit) : Obj → Obj
  | .cells _ t frozen => .cells (dataV d) t frozen
  | o => o
/-- A world for the witness: each table holds what its initialiser lays. -/
noncomputable def laidWorld (os : Os) : World :=
  { World.holding Tryz.prog os ⟨#[], #[], []⟩ with heap := (((World.holding Tryz.prog os ⟨#[], #[], []⟩).heap.modify 2 (putV Rows.laid_math_bits_deBruijn32tab)).modify 3 (putV Rows.laid_math_bits_deBruijn64tab)).modify 1 (putV Rows.laid_internal_strconv_uint64pow10) }
end Go.Proofs.YtnlmfmceogbomaaGreatDoor
