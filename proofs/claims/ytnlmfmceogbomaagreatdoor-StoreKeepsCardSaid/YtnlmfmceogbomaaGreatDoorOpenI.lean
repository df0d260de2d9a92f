/- Acts on an index as an argument; law 9's heavy: what it lets by. -/
import Derived.Test.YtnlmfmceogbomaaGreatDoorOpenS
import Derived.Test.YtnlmfmceogbomaaGreatDoorFlat
namespace Go.Proofs.YtnlmfmceogbomaaGreatDoor
open Go.RowKit Go.Deep Go.ChangeShapes Go.WideShapes
set_option linter.unusedVariables false

structure Act9 where
  d : Int
  k : ByteArray
  v : ByteArray
def encA9 (a : Act9) : List Value := [.int .i64 a.d, .string a.k, .string a.v]
instance : Inhabited Act9 := ⟨⟨0, ⟨#[]⟩, ⟨#[]⟩⟩⟩
section
variable {H : Type} {enc : TypeId × Value → H} {w : World} {spare : Nat → Bool} {held : Bool}
end

def LightI (a : Act9) : Prop := a.k.size ≤ 200 ∧ a.v.size ≤ 200
instance (a : Act9) : Decidable (LightI a) := by unfold LightI; exact inferInstance
def HeavyI (l : List Act9) (w : World) (e : Ending) (w' : World) : Prop := ∃ b, e = .returned (.bool b) ∧ Mod NoneB w w' ∧ (b = false → l.length ≤ 300 ∧ ∀ a ∈ l, LightI a)
end Go.Proofs.YtnlmfmceogbomaaGreatDoor

