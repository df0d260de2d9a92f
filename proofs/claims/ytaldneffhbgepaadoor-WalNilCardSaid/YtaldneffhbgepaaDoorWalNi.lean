/- WalNil: a log that there is not, one of no disk, answers nothing: the walk of the law. -/
import Derived.Test.YtaldneffhbgepaaDoorWalW
import Derived.Test.YtaldneffhbgepaaDoorDkNil
namespace Go.Proofs.YtaldneffhbgepaaDoor
open Go.RowKit
set_option linter.unusedVariables false

set_option maxHeartbeats 1000000 in
set_option maxRecDepth 100000 in
theorem wopen0_calls (w : World) : Calls Tryd.prog 29 #[.pointer none] w fun e w' => e = .returned (.tuple #[.pointer none, .slice none 0 0, .int .i64 3]) ∧ w' = w := by
  go_enter Tryd.func29, Tryd.ntmps29
  go_wp2_with fail
  refine (read_nil _ w).mono ?_
  rintro e wz ⟨rfl, rfl⟩
  go_wp2_with fail
  go_ret3
  exact ⟨rfl, rfl⟩

set_option maxHeartbeats 1000000 in
set_option maxRecDepth 100000 in
theorem walNil_walk (l0 : List Op3) (a0 : Option Addr) (c0 : Nat) (w : World) (rd0 : Rd w 3 a0 l0.length (encOs l0)) (htab : TabW w) :
    Calls Tryd.prog 12 #[.slice a0 l0.length c0] w fun e w' => e = .returned (.bool true) ∧ Mod NoneB w w' := by
  clear rd0
  go_enter Tryd.func12, Tryd.ntmps12
  go_wp2_with fail
  refine (wopen0_calls w).mono ?_
  rintro e wz ⟨rfl, rfl⟩
  go_wp2_with ((with_reducible refine (num_calls _ _).mono ?_); rintro ez wy ⟨rfl, rfl⟩)
  refine (wcommit0_calls _ _).mono ?_
  rintro e w2 ⟨rfl, hm2⟩
  go_wp2_with first
    | ((with_reducible refine (num_calls _ _).mono ?_); rintro ez wy ⟨rfl, rfl⟩)
    | ((with_reducible refine (wsize0_calls _).mono ?_); rintro ez wy ⟨rfl, rfl⟩)
    | ((with_reducible refine (wreset0_calls _).mono ?_); rintro ez wy ⟨rfl, rfl⟩)
    | ((with_reducible refine (wsick0_calls _).mono ?_); rintro ez wy ⟨rfl, rfl⟩)
    | ((with_reducible refine (awake7_calls _ (htab.mod0 hm2)).mono ?_); rintro ez wy ⟨rfl, hmz⟩)
  go_ret
  exact ⟨rfl, hm2.then0 hmz⟩
end Go.Proofs.YtaldneffhbgepaaDoor

