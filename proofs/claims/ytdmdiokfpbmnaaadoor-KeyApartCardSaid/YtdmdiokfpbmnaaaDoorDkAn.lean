/- Law 1's awake: the document's example of a disk. -/
import Derived.Test.YtdmdiokfpbmnaaaDoorDkNews
import Derived.Test.YtdmdiokfpbmnaaaDoorPlain
import Derived.Test.YtdmdiokfpbmnaaaDoorConvR
namespace Go.Proofs.YtdmdiokfpbmnaaaDoor
open Go.RowKit
set_option linter.unusedVariables false

def sF : ByteArray := ⟨#[102]⟩
def plE : Pl := ⟨100, [], 0, false, [1]⟩
def dE0 : Dk := ⟨plE, [], 0, false⟩
def dE1 : Dk := ⟨plE, [⟨sF, [], 0⟩], 1, false⟩
def dE2 : Dk := ⟨plE, [⟨sF, [97, 98], 0⟩], 2, false⟩
def dE3 : Dk := ⟨plE, [⟨sF, [97, 98], 2⟩], 3, false⟩
def dE4 : Dk := ⟨plE, [⟨sF, [97, 98, 99, 100], 2⟩], 4, false⟩
def dE5 : Dk := ⟨⟨0, [], 0, false, []⟩, [⟨sF, [97, 98, 99], 3⟩], 0, false⟩
theorem eE1 : createD dE0 sF = (dE1, 0) := by decide +kernel
theorem eE2 : appendD dE1 sF [97, 98] = (dE2, 0) := by decide +kernel
theorem eE3 : syncD dE2 sF = (dE3, 0) := by decide +kernel
theorem eE4 : appendD dE3 sF [99, 100] = (dE4, 0) := by decide +kernel
theorem eE5 : restartD dE4 ⟨0, [], 0, false, []⟩ = dE5 := by decide +kernel
theorem eE6 : readD dE5 sF = ([97, 98, 99], 0) := by decide +kernel


set_option maxHeartbeats 2000000 in
set_option maxRecDepth 100000 in
theorem num_calls (k : Int) (w : World) : Calls Tryd.prog 14 #[.int .i64 k] w fun e w' => e = .returned (.int .i64 k) ∧ w' = w := by
  go_enter Tryd.func14, Tryd.ntmps14
  go_wp2_with fail
  go_ret
  exact ⟨rfl, rfl⟩

end Go.Proofs.YtdmdiokfpbmnaaaDoor

/- A disk that there is not: every method's answer. -/
namespace Go.Proofs.YtdmdiokfpbmnaaaDoor
open Go.RowKit
set_option linter.unusedVariables false













end Go.Proofs.YtdmdiokfpbmnaaaDoor

