/- The reference's Diags, great, diag.Text, awake of law 18; DiagBack: what was told is read back: the walk of the law. -/
import Derived.Test.YtkklofnabmdmfaaGreatDoorDgWQq
namespace Go.Proofs.YtkklofnabmdmfaaGreatDoor
open Go.RowKit
set_option linter.unusedVariables false

/-- A diagnostic as a text. -/
def itoaB (z : Int) : ByteArray := ⟨(Lib.itoa z).toArray⟩

end Go.Proofs.YtkklofnabmdmfaaGreatDoor
