/- The library's contracts at this translation: the numbers, and one application each. -/
import Derived.Shelf.Small.Strs
import Derived.Test.YtdmdiokfpbmnaaaDoorProg
import Derived.Test.YtdmdiokfpbmnaaaDoorOrdMap
namespace Go.Proofs.YtdmdiokfpbmnaaaDoor
open Go.Shelf Go.RowKit
def lays106_ren : Go.Shelf.Ren := ⟨fun | 106 => 41 | 213 => 52 | 265 => 64 | n => n, fun | 9 => 9 | 3 => 3 | n => n, fun | n => n⟩
theorem lays106 : Go.Proofs.Lays.n106 Tryd.prog lays106_ren := {
  mixed := by kernel_rfl
  f106 := Tryd.func41.trans (congrArg some (by kernel_rfl))
  f213 := Tryd.func52.trans (congrArg some (by kernel_rfl))
  f265 := Tryd.func64.trans (congrArg some (by kernel_rfl))
  t3 := Tryd.underlying3
  a3 := Tryd.isAgg3
  z3 := Tryd.sizeOf3
  v3 := Tryd.zeroValue3
  t9 := Tryd.underlying9
  a9 := Tryd.isAgg9
  z9 := Tryd.sizeOf9
  v9 := Tryd.zeroValue9 }
/-- strings.Compare tells the order of two texts, and leaves the world as it was. -/
theorem strings_Compare (a b : ByteArray) (w : World) :
    Calls Tryd.prog 41 #[.string a, .string b] w fun e w' => e = .returned (.int .i64 (cmpS a b)) ∧ w = w' :=
  (Any.strings_Compare lays106 a b w).mono fun _ _ h => ⟨h.1, h.2.symm⟩
end Go.Proofs.YtdmdiokfpbmnaaaDoor

