/- The library's contracts at this translation: the numbers, and one application each. -/
import Derived.Shelf.Small.Strs
import Derived.Test.YtkklofnabmdmfaaGreatDoorProg
import Derived.Test.YtkklofnabmdmfaaGreatDoorOrdMapQq
namespace Go.Proofs.YtkklofnabmdmfaaGreatDoor
open Go.Shelf Go.RowKit
def lays106_ren : Go.Shelf.Ren := ⟨fun | 106 => 67 | 213 => 105 | 265 => 141 | n => n, fun | 9 => 9 | 3 => 3 | n => n, fun | n => n⟩
theorem lays106 : Go.Proofs.Lays.n106 Tryz.prog lays106_ren := {
  mixed := by kernel_rfl
  f106 := Tryz.func67.trans (congrArg some (by kernel_rfl))
  f213 := Tryz.func105.trans (congrArg some (by kernel_rfl))
  f265 := Tryz.func141.trans (congrArg some (by kernel_rfl))
  t3 := Tryz.underlying3
  a3 := Tryz.isAgg3
  z3 := Tryz.sizeOf3
  v3 := Tryz.zeroValue3
  t9 := Tryz.underlying9
  a9 := Tryz.isAgg9
  z9 := Tryz.sizeOf9
  v9 := Tryz.zeroValue9 }
/-- strings.Compare tells the order of two texts, and leaves the world as it was. -/
theorem strings_Compare (a b : ByteArray) (w : World) :
    Calls Tryz.prog 67 #[.string a, .string b] w fun e w' => e = .returned (.int .i64 (cmpS a b)) ∧ w = w' :=
  (Any.strings_Compare lays106 a b w).mono fun _ _ h => ⟨h.1, h.2.symm⟩
end Go.Proofs.YtkklofnabmdmfaaGreatDoor
