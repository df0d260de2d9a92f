/- StoreNil: a store that there is not has nothing: the walk of the law; the statements' own example. -/
import Derived.Test.YtkklofnabmdmfaaGreatDoorStKQq
namespace Go.Proofs.YtkklofnabmdmfaaGreatDoor
open Go.RowKit
set_option linter.unusedVariables false

def dA : Dk := freeD 1000 [] [] 0
theorem dA_quiet : Quiet dA := ⟨rfl, rfl, rfl⟩
/-- The example's store, behind its first opening; behind its commit. -/
structure Ex1 (t : St) : Prop where
  r : t.r = []
  sk : t.sk = false
  quiet : Quiet t.d
  c : t.d.c ≤ 3
  cap : t.d.p.cap = 1000
  inv : Inv t none 100 100
theorem ex1 : openE dA = 0 ∧ Ex1 (openS dA) := by
  obtain ⟨h1, h2, h3, h4, h5⟩ := (Shut.new ⟨1000, [], 0, false, []⟩ 0 false 100 100).opens
  obtain ⟨q1, q2⟩ := h4 dA_quiet
  obtain ⟨k1, k2, _, k3⟩ := h5 q1
  refine ⟨q1, ?_, rfl, ?_, ?_, ?_, k2⟩
  · rcases k3 with k | ⟨l, h, _⟩
    · exact k
    · cases h
  · exact k1 ▸ q2
  · have : (openK dA).c ≤ 0 + 3 := h3
    rw [show openK dA = (openS dA).d from k1] at this
    omega
  · have : (openK dA).p = _ := h2
    rw [show openK dA = (openS dA).d from k1] at this
    rw [this]

theorem sopen_nil (z : Int) (w : World) : Calls Tryz.prog 17 #[.pointer none, .int .i64 z] w fun e w' => e = .returned (.tuple #[.pointer none, .int .i64 3]) ∧ w' = w := by
  go_enter Tryz.func17, Tryz.ntmps17
  go_wp2_with ((with_reducible refine (load_nil _).mono ?_); rintro ez wz ⟨rfl, hwz⟩; subst hwz)
  go_ret2
  exact ⟨rfl, rfl⟩
end Go.Proofs.YtkklofnabmdmfaaGreatDoor
