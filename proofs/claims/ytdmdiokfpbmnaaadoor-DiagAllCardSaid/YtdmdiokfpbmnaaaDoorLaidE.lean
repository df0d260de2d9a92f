/- The library's variables that the rows list, the two errors of strconv besides; a world that holds them. -/
import Derived.Test.YtdmdiokfpbmnaaaDoorLaid
import Derived.Test.YtdmdiokfpbmnaaaDoorAtoi
import Derived.Stop.LaidErr
namespace Go.Proofs.YtdmdiokfpbmnaaaDoor
open Go.RowKit
set_option linter.unusedVariables false

def laidAllE : List (String × DataW Unit) := [("math/bits.deBruijn32tab", Rows.laid_math_bits_deBruijn32tab), ("math/bits.deBruijn64tab", Rows.laid_math_bits_deBruijn64tab), ("internal/strconv.uint64pow10", Rows.laid_internal_strconv_uint64pow10), ("strconv.ErrRange", Rows.laid_strconv_ErrRange), ("strconv.ErrSyntax", Rows.laid_strconv_ErrSyntax)]
theorem laid_tensE : (laidAllE.filter fun x => x.1 == "internal/strconv.uint64pow10") = [("internal/strconv.uint64pow10", Lib.tabData .u64 Lib.pow10Tab)] := by kernel_rfl
theorem tabW_ofE {W : World} (h : laidMetH Tryd.prog laidAllE W) : TabW W := by
  have h2 := h.filter (fun x => x.1 == "internal/strconv.uint64pow10")
  rw [laid_tensE] at h2
  exact Lib.tabIs_of_head (rest := []) gTens gTensType Tryd.underlying119 Tryd.underlying71 ten_cell tens_cells h2
theorem laid_syn : (laidAllE.filter fun x => x.1 == "strconv.ErrSyntax") = [("strconv.ErrSyntax", .iface "*errors.errorString" (.ptr (.agg [.lit (.string [105, 110, 118, 97, 108, 105, 100, 32, 115, 121, 110, 116, 97, 120])])))] := by kernel_rfl
theorem laid_ran : (laidAllE.filter fun x => x.1 == "strconv.ErrRange") = [("strconv.ErrRange", .iface "*errors.errorString" (.ptr (.agg [.lit (.string [118, 97, 108, 117, 101, 32, 111, 117, 116, 32, 111, 102, 32, 114, 97, 110, 103, 101])])))] := by kernel_rfl
theorem gSyn : Tryd.prog.globalNamed "strconv.ErrSyntax" = some 1 := by kernel_rfl
theorem gRan : Tryd.prog.globalNamed "strconv.ErrRange" = some 2 := by kernel_rfl
theorem gSynT : (Tryd.prog.globals[1]?).map (·.type) = some 51 := by kernel_rfl
theorem gRanT : (Tryd.prog.globals[2]?).map (·.type) = some 51 := by kernel_rfl
theorem cellsES : Tryd.prog.cellsOf 116 = 1 := by kernel_rfl
theorem cellsStr : Tryd.prog.cellsOf 9 = 1 := by kernel_rfl
theorem starES : "*" ++ "errors.errorString" = "*errors.errorString" := by decide
theorem rowES (u : TypeId) (h : Tryd.prog.typeName? 3 u = some "*errors.errorString") : u = 114 :=
  typeName_ptr_named (nm := "errors.errorString") (by rw [starES]; kernel_rfl) (by kernel_rfl) (by decide) u (by rw [starES]; exact h)
theorem errW_of {W : World} (h : laidMetH Tryd.prog laidAllE W) : ErrW W := by
  have h1 := h.filter (fun x => x.1 == "strconv.ErrSyntax")
  rw [laid_syn] at h1
  have h2 := h.filter (fun x => x.1 == "strconv.ErrRange")
  rw [laid_ran] at h2
  obtain ⟨a1, s1, v1, _⟩ := laid_sentinel (r := []) h1 gSyn gSynT Tryd.underlying51 rowES Tryd.underlying114 Tryd.underlying116 rfl rfl Tryd.underlying9 cellsES cellsStr
  obtain ⟨a2, s2, v2, _⟩ := laid_sentinel (r := []) h2 gRan gRanT Tryd.underlying51 rowES Tryd.underlying114 Tryd.underlying116 rfl rfl Tryd.underlying9 cellsES cellsStr
  exact ⟨⟨_, by have h0 := World.var?_cell gSyn v1 0; simpa using h0, .inr ⟨_, _, rfl⟩⟩, _, by have h0 := World.var?_cell gRan v2 0; simpa using h0, .inr ⟨_, _, rfl⟩⟩
def putErr (b : Nat) : Obj → Obj
  | .cells _ t frozen => .cells #[.iface 114 (.pointer (some ⟨b, 0, none⟩))] t frozen
  | o => o
/-- A world for the witness: the two errors' texts in two blocks of their own. -/
noncomputable def laidWorldE (os : Os) : World :=
  { laidWorld os with heap := ((((laidWorld os).heap.modify 2 (putErr (laidWorld os).heap.size)).modify 1 (putErr ((laidWorld os).heap.size + 1))).push (.cells #[.string ⟨#[118, 97, 108, 117, 101, 32, 111, 117, 116, 32, 111, 102, 32, 114, 97, 110, 103, 101]⟩] 116 (0, 0))).push (.cells #[.string ⟨#[105, 110, 118, 97, 108, 105, 100, 32, 115, 121, 110, 116, 97, 120]⟩] 116 (0, 0)) }
end Go.Proofs.YtdmdiokfpbmnaaaDoor

