/- A disk that there is not: every method's answer. -/
import Derived.Test.YtaldneffhbgepaaDoorDkAw
namespace Go.Proofs.YtaldneffhbgepaaDoor
open Go.RowKit
set_option linter.unusedVariables false

set_option maxHeartbeats 1000000 in
set_option maxRecDepth 100000 in
theorem gate_nil (cl : Value) (w : World) : Calls Tryd.prog 54 #[.pointer none, cl] w fun e w' => e = .returned (.int .i64 3) ∧ w' = w := by
  go_enter Tryd.func54, Tryd.ntmps54
  go_wp2_with fail
  go_step3
  go_wp2_with fail
  try rw [Exit.noGoto_ret]
  go_ret
  exact ⟨rfl, rfl⟩

set_option maxHeartbeats 1000000 in
set_option maxRecDepth 100000 in
theorem with_nil (n : ByteArray) (cl : Value) (hcl : ∃ f c, cl = .func f #[] c) (w : World) : Calls Tryd.prog 58 #[.pointer none, .string n, cl] w fun e w' => e = .returned (.int .i64 3) ∧ Mod NoneB w w' := by
  obtain ⟨f, c, rfl⟩ := hcl
  go_enter Tryd.func58, Tryd.ntmps58
  go_wp2_with ((with_reducible refine (gate_nil _ _).mono ?_); rintro e wz ⟨rfl, rfl⟩)
  go_ret
  exact ⟨rfl, (((Mod.refl NoneB w).alloc _).alloc _).alloc _⟩

set_option maxHeartbeats 1000000 in
set_option maxRecDepth 100000 in
theorem create_nil (n : ByteArray) (w : World) : Calls Tryd.prog 33 #[.pointer none, .string n] w fun e w' => e = .returned (.int .i64 3) ∧ Mod NoneB w w' := by
  go_enter Tryd.func33, Tryd.ntmps33
  go_wp2_with ((with_reducible refine (gate_nil _ _).mono ?_); rintro e wz ⟨rfl, rfl⟩)
  go_ret
  exact ⟨rfl, ((Mod.refl NoneB w).alloc _).alloc _⟩

set_option maxHeartbeats 1000000 in
set_option maxRecDepth 100000 in
theorem append_nil (n : ByteArray) (B : Option Addr) (k c : Nat) (w : World) : Calls Tryd.prog 34 #[.pointer none, .string n, .slice B k c] w fun e w' => e = .returned (.int .i64 3) ∧ Mod NoneB w w' := by
  go_enter Tryd.func34, Tryd.ntmps34
  go_wp2_with ((with_reducible refine (with_nil _ _ ⟨_, _, rfl⟩ _).mono ?_); rintro e wz ⟨rfl, hz⟩)
  go_ret
  exact ⟨rfl, (((Mod.refl NoneB w).alloc _).alloc _).then0 hz⟩

set_option maxHeartbeats 1000000 in
set_option maxRecDepth 100000 in
theorem sync_nil (n : ByteArray) (w : World) : Calls Tryd.prog 51 #[.pointer none, .string n] w fun e w' => e = .returned (.int .i64 3) ∧ Mod NoneB w w' := by
  go_enter Tryd.func51, Tryd.ntmps51
  go_wp2_with ((with_reducible refine (with_nil _ _ ⟨_, _, rfl⟩ _).mono ?_); rintro e wz ⟨rfl, hz⟩)
  go_ret
  exact ⟨rfl, (Mod.refl NoneB w).then0 hz⟩

set_option maxHeartbeats 1000000 in
set_option maxRecDepth 100000 in
theorem cut_nil (n : ByteArray) (k : Int) (w : World) : Calls Tryd.prog 50 #[.pointer none, .string n, .int .i64 k] w fun e w' => e = .returned (.int .i64 3) ∧ Mod NoneB w w' := by
  go_enter Tryd.func50, Tryd.ntmps50
  go_wp2_with ((with_reducible refine (with_nil _ _ ⟨_, _, rfl⟩ _).mono ?_); rintro e wz ⟨rfl, hz⟩)
  go_ret
  exact ⟨rfl, ((Mod.refl NoneB w).alloc _).then0 hz⟩



set_option maxHeartbeats 1000000 in
set_option maxRecDepth 100000 in
theorem read_nil (n : ByteArray) (w : World) : Calls Tryd.prog 49 #[.pointer none, .string n] w fun e w' => e = .returned (.tuple #[.slice none 0 0, .int .i64 3]) ∧ w' = w := by
  go_enter Tryd.func49, Tryd.ntmps49
  go_wp2_with fail
  go_ret2
  exact ⟨rfl, rfl⟩




set_option maxHeartbeats 1000000 in
set_option maxRecDepth 100000 in
theorem restartD_nil (c1 c2 : Int) (d : Bool) (F K : Option Addr) (n m fc kc : Nat) (w : World) :
    Calls Tryd.prog 36 #[.pointer none, .agg #[.int .i64 c1, .slice F n fc, .int .i64 c2, .bool d, .slice K m kc]] w fun e w' => e = .returned (.tuple #[]) ∧ Mod NoneB w w' := by
  go_enter Tryd.func36, Tryd.ntmps36
  go_wp2_with fail
  refine bodyPost_ret (results_none rfl _ _ _) rfl ?_
  exact ⟨rfl, (Mod.refl NoneB w).alloc _⟩
end Go.Proofs.YtaldneffhbgepaaDoor

