/- The three tables of the library that the rows list; a world that holds them. -/
import Derived.Test.YtdmdiokfpbmnaaaDoorCards
import Derived.Test.YtdmdiokfpbmnaaaDoorTie
import Derived.Test.YtdmdiokfpbmnaaaDoorBatA
import Derived.Deep.DeepHandedRow
import Derived.Lib.LaidTab
import Derived.LaidSub
namespace Go.Proofs.YtdmdiokfpbmnaaaDoor
open Go.RowKit
set_option linter.unusedVariables false

def laidAll : List (String × DataW Unit) := [("math/bits.deBruijn32tab", Rows.laid_math_bits_deBruijn32tab), ("math/bits.deBruijn64tab", Rows.laid_math_bits_deBruijn64tab), ("internal/strconv.uint64pow10", Rows.laid_internal_strconv_uint64pow10)]
theorem gTens : Tryd.prog.globalNamed "internal/strconv.uint64pow10" = some 3 := by kernel_rfl
theorem gTensType : (Tryd.prog.globals[3]?).map (·.type) = some 119 := by kernel_rfl
theorem tens_cells : Tryd.prog.cellsOf 119 = 20 := by kernel_rfl
theorem ten_cell : Tryd.prog.cellsOf 71 = 1 := by kernel_rfl
theorem laid_tens : (laidAll.filter fun x => x.1 == "internal/strconv.uint64pow10") = [("internal/strconv.uint64pow10", Lib.tabData .u64 Lib.pow10Tab)] := by kernel_rfl
/-- What the rows' list gives. -/
theorem tabW_of {W : World} (h : laidMetH Tryd.prog laidAll W) : TabW W := by
  have h2 := h.filter (fun x => x.1 == "internal/strconv.uint64pow10")
  rw [laid_tens] at h2
  exact Lib.tabIs_of_head (rest := []) gTens gTensType Tryd.underlying119 Tryd.underlying71 ten_cell tens_cells h2
def litV : DataW Unit → Value
  | .lit (.int k z) => .int k z
  | _ => .bool false
def dataV : DataW Unit → Array Value
  | .agg l => (l.map litV).toArray
  | _ => #[]
def putV (d : DataW Unit) : Obj → Obj
  | .cells _ t frozen => .cells (dataV d) t frozen
  | o => o
/-- A world for the witness: each table holds what its initialiser lays. -/
noncomputable def laidWorld (os : Os) : World :=
  { World.holding Tryd.prog os ⟨#[], #[], []⟩ with heap := (((World.holding Tryd.prog os ⟨#[], #[], []⟩).heap.modify 4 (putV Rows.laid_math_bits_deBruijn32tab)).modify 5 (putV Rows.laid_math_bits_deBruijn64tab)).modify 3 (putV Rows.laid_internal_strconv_uint64pow10) }
end Go.Proofs.YtdmdiokfpbmnaaaDoor

