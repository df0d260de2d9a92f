/- Law 1's Heavy: what it lets by. -/
import Derived.Test.YtedjfbbfpnkbeaaGreatDoorOpenS
import Derived.Test.YtedjfbbfpnkbeaaGreatDoorFlat
namespace Go.Proofs.YtedjfbbfpnkbeaaGreatDoor
open Go.RowKit
set_option linter.unusedVariables false

def sumB (l : List ActV) : Nat := (l.map fun a => min a.b.length 5000).sum
/-- An act that is let by. -/
def LightA (a : ActV) : Prop := a.p.p.fail.length ≤ 200 ∧ a.p.p.keep.length ≤ 200 ∧ a.name.size ≤ 100 ∧ a.nto.size ≤ 100
instance (a : ActV) : Decidable (LightA a) := by unfold LightA; exact inferInstance
theorem sumB_take (l : List ActV) (i : Nat) (h : i < l.length) : sumB (l.take (i + 1)) = sumB (l.take i) + min l[i].b.length 5000 := by
  unfold sumB; rw [List.take_succ_eq_append_getElem h, List.map_append, List.sum_append]; simp
theorem sumB_le (l : List ActV) : sumB l ≤ l.length * 5000 := by
  unfold sumB
  induction l with
  | nil => simp
  | cons x l ih => rw [List.map_cons, List.sum_cons, List.length_cons, Nat.add_mul]; omega

def HeavyP (l : List ActV) (w : World) (e : Ending) (w' : World) : Prop := ∃ b, e = .returned (.bool b) ∧ Mod NoneB w w' ∧ (b = false → l.length ≤ 120 ∧ sumB l ≤ 20000 ∧ ∀ a ∈ l, LightA a)
end Go.Proofs.YtedjfbbfpnkbeaaGreatDoor

