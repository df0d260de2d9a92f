/- The three tables of the library that the rows list; a world that holds them. -/
import Derived.Test.YtkklofnabmdmfaaGreatDoorCards
import Derived.Test.YtkklofnabmdmfaaGreatDoorTie
import Derived.Deep.DeepHandedRow
import Derived.Lib.LaidTab
import Derived.LaidSub
import Derived.Stop.LaidErr
import Derived.Test.YtkklofnabmdmfaaGreatDoorBatAQq
import Derived.Test.YtkklofnabmdmfaaGreatDoorAtoiQq
namespace Go.Proofs.YtkklofnabmdmfaaGreatDoor
open Go.RowKit
set_option linter.unusedVariables false

theorem gTens : Tryz.prog.globalNamed "internal/strconv.uint64pow10" = some 3 := by kernel_rfl
theorem gTensType : (Tryz.prog.globals[3]?).map (·.type) = some 252 := by kernel_rfl
theorem tens_cells : Tryz.prog.cellsOf 252 = 20 := by kernel_rfl
theorem ten_cell : Tryz.prog.cellsOf 184 = 1 := by kernel_rfl
def litV : DataW Unit → Value
  | .lit (.int k z) => .int k z
  | _ => .bool false
def dataV : DataW Unit → Array Value
  | .agg l => (l.map litV).toArray
  | _ => #[]
def putV (d : DataW Unit) : Obj → Obj
  | .cells _ t frozen => .cells (dataV d) t frozen
  | o => o
/-- A world for the witness: each table holds what its initialiser lays. -/
noncomputable def laidWorld (os : Os) : World :=
  { World.holding Tryz.prog os ⟨#[], #[], []⟩ with heap := (((World.holding Tryz.prog os ⟨#[], #[], []⟩).heap.modify 4 (putV Rows.laid_math_bits_deBruijn32tab)).modify 5 (putV Rows.laid_math_bits_deBruijn64tab)).modify 3 (putV Rows.laid_internal_strconv_uint64pow10) }
end Go.Proofs.YtkklofnabmdmfaaGreatDoor

/- The library's variables that the rows list, the two errors of strconv besides; a world that holds them. -/
namespace Go.Proofs.YtkklofnabmdmfaaGreatDoor
open Go.RowKit
set_option linter.unusedVariables false

def laidAllE : List (String × DataW Unit) := [("math/bits.deBruijn32tab", Rows.laid_math_bits_deBruijn32tab), ("math/bits.deBruijn64tab", Rows.laid_math_bits_deBruijn64tab), ("internal/strconv.uint64pow10", Rows.laid_internal_strconv_uint64pow10), ("strconv.ErrRange", Rows.laid_strconv_ErrRange), ("strconv.ErrSyntax", Rows.laid_strconv_ErrSyntax)]
theorem laid_tensE : (laidAllE.filter fun x => x.1 == "internal/strconv.uint64pow10") = [("internal/strconv.uint64pow10", Lib.tabData .u64 Lib.pow10Tab)] := by kernel_rfl
theorem tabW_ofE {W : World} (h : laidMetH Tryz.prog laidAllE W) : TabW W := by
  have h2 := h.filter (fun x => x.1 == "internal/strconv.uint64pow10")
  rw [laid_tensE] at h2
  exact Lib.tabIs_of_head (rest := []) gTens gTensType Tryz.underlying252 Tryz.underlying184 ten_cell tens_cells h2
theorem laid_syn : (laidAllE.filter fun x => x.1 == "strconv.ErrSyntax") = [("strconv.ErrSyntax", .iface "*errors.errorString" (.ptr (.agg [.lit (.string [105, 110, 118, 97, 108, 105, 100, 32, 115, 121, 110, 116, 97, 120])])))] := by kernel_rfl
theorem laid_ran : (laidAllE.filter fun x => x.1 == "strconv.ErrRange") = [("strconv.ErrRange", .iface "*errors.errorString" (.ptr (.agg [.lit (.string [118, 97, 108, 117, 101, 32, 111, 117, 116, 32, 111, 102, 32, 114, 97, 110, 103, 101])])))] := by kernel_rfl
theorem gSyn : Tryz.prog.globalNamed "strconv.ErrSyntax" = some 1 := by kernel_rfl
theorem gRan : Tryz.prog.globalNamed "strconv.ErrRange" = some 2 := by kernel_rfl
theorem gSynT : (Tryz.prog.globals[1]?).map (·.type) = some 145 := by kernel_rfl
theorem gRanT : (Tryz.prog.globals[2]?).map (·.type) = some 145 := by kernel_rfl
theorem cellsES : Tryz.prog.cellsOf 248 = 1 := by kernel_rfl
theorem cellsStr : Tryz.prog.cellsOf 9 = 1 := by kernel_rfl
theorem starES : "*" ++ "errors.errorString" = "*errors.errorString" := by decide
theorem rowES (u : TypeId) (h : Tryz.prog.typeName? 3 u = some "*errors.errorString") : u = 246 :=
  typeName_ptr_named (nm := "errors.errorString") (by rw [starES]; kernel_rfl) (by kernel_rfl) (by decide) u (by rw [starES]; exact h)
theorem errW_of {W : World} (h : laidMetH Tryz.prog laidAllE W) : ErrW W := by
  have h1 := h.filter (fun x => x.1 == "strconv.ErrSyntax")
  rw [laid_syn] at h1
  have h2 := h.filter (fun x => x.1 == "strconv.ErrRange")
  rw [laid_ran] at h2
  obtain ⟨a1, s1, v1, _⟩ := laid_sentinel (r := []) h1 gSyn gSynT Tryz.underlying145 rowES Tryz.underlying246 Tryz.underlying248 rfl rfl Tryz.underlying9 cellsES cellsStr
  obtain ⟨a2, s2, v2, _⟩ := laid_sentinel (r := []) h2 gRan gRanT Tryz.underlying145 rowES Tryz.underlying246 Tryz.underlying248 rfl rfl Tryz.underlying9 cellsES cellsStr
  exact ⟨⟨_, by have h0 := World.var?_cell gSyn v1 0; simpa using h0, .inr ⟨_, _, rfl⟩⟩, _, by have h0 := World.var?_cell gRan v2 0; simpa using h0, .inr ⟨_, _, rfl⟩⟩
def putErr (b : Nat) : Obj → Obj
  | .cells _ t frozen => .cells #[.iface 246 (.pointer (some ⟨b, 0, none⟩))] t frozen
  | o => o
/-- A world for the witness: the two errors' texts in two blocks of their own. -/
noncomputable def laidWorldE (os : Os) : World :=
  { laidWorld os with heap := ((((laidWorld os).heap.modify 2 (putErr (laidWorld os).heap.size)).modify 1 (putErr ((laidWorld os).heap.size + 1))).push (.cells #[.string ⟨#[118, 97, 108, 117, 101, 32, 111, 117, 116, 32, 111, 102, 32, 114, 97, 110, 103, 101]⟩] 248 (0, 0))).push (.cells #[.string ⟨#[105, 110, 118, 97, 108, 105, 100, 32, 115, 121, 110, 116, 97, 120]⟩] 248 (0, 0)) }
end Go.Proofs.YtkklofnabmdmfaaGreatDoor
