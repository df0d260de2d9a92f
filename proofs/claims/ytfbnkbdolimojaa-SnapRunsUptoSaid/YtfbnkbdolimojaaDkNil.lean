/- A disk that there is not: every method's answer. -/
import Derived.Test.YtfbnkbdolimojaaDkAw
namespace Go.Proofs.Ytfbnkbdolimojaa
open Go.RowKit
set_option linter.unusedVariables false

set_option maxHeartbeats 1000000 in
set_option maxRecDepth 100000 in
theorem gate_nil (cl : Value) (w : World) : Calls Try.prog 89 #[.pointer none, cl] w fun e w' => e = .returned (.int .i64 3) ∧ w' = w := by
  go_enter Try.func89, Try.ntmps89
  go_wp2_with fail
  go_step3
  go_wp2_with fail
  try rw [Exit.noGoto_ret]
  go_ret
  exact ⟨rfl, rfl⟩

set_option maxHeartbeats 1000000 in
set_option maxRecDepth 100000 in
theorem with_nil (n : ByteArray) (cl : Value) (hcl : ∃ f c, cl = .func f #[] c) (w : World) : Calls Try.prog 93 #[.pointer none, .string n, cl] w fun e w' => e = .returned (.int .i64 3) ∧ Mod NoneB w w' := by
  obtain ⟨f, c, rfl⟩ := hcl
  go_enter Try.func93, Try.ntmps93
  go_wp2_with ((with_reducible refine (gate_nil _ _).mono ?_); rintro e wz ⟨rfl, rfl⟩)
  go_ret
  exact ⟨rfl, (((Mod.refl NoneB w).alloc _).alloc _).alloc _⟩

set_option maxHeartbeats 1000000 in
set_option maxRecDepth 100000 in
theorem create_nil (n : ByteArray) (w : World) : Calls Try.prog 49 #[.pointer none, .string n] w fun e w' => e = .returned (.int .i64 3) ∧ Mod NoneB w w' := by
  go_enter Try.func49, Try.ntmps49
  go_wp2_with ((with_reducible refine (gate_nil _ _).mono ?_); rintro e wz ⟨rfl, rfl⟩)
  go_ret
  exact ⟨rfl, ((Mod.refl NoneB w).alloc _).alloc _⟩

set_option maxHeartbeats 1000000 in
set_option maxRecDepth 100000 in
theorem append_nil (n : ByteArray) (B : Option Addr) (k c : Nat) (w : World) : Calls Try.prog 50 #[.pointer none, .string n, .slice B k c] w fun e w' => e = .returned (.int .i64 3) ∧ Mod NoneB w w' := by
  go_enter Try.func50, Try.ntmps50
  go_wp2_with ((with_reducible refine (with_nil _ _ ⟨_, _, rfl⟩ _).mono ?_); rintro e wz ⟨rfl, hz⟩)
  go_ret
  exact ⟨rfl, (((Mod.refl NoneB w).alloc _).alloc _).then0 hz⟩

set_option maxHeartbeats 1000000 in
set_option maxRecDepth 100000 in
theorem sync_nil (n : ByteArray) (w : World) : Calls Try.prog 51 #[.pointer none, .string n] w fun e w' => e = .returned (.int .i64 3) ∧ Mod NoneB w w' := by
  go_enter Try.func51, Try.ntmps51
  go_wp2_with ((with_reducible refine (with_nil _ _ ⟨_, _, rfl⟩ _).mono ?_); rintro e wz ⟨rfl, hz⟩)
  go_ret
  exact ⟨rfl, (Mod.refl NoneB w).then0 hz⟩

set_option maxHeartbeats 1000000 in
set_option maxRecDepth 100000 in
theorem cut_nil (n : ByteArray) (k : Int) (w : World) : Calls Try.prog 57 #[.pointer none, .string n, .int .i64 k] w fun e w' => e = .returned (.int .i64 3) ∧ Mod NoneB w w' := by
  go_enter Try.func57, Try.ntmps57
  go_wp2_with ((with_reducible refine (with_nil _ _ ⟨_, _, rfl⟩ _).mono ?_); rintro e wz ⟨rfl, hz⟩)
  go_ret
  exact ⟨rfl, ((Mod.refl NoneB w).alloc _).then0 hz⟩

set_option maxHeartbeats 1000000 in
set_option maxRecDepth 100000 in
theorem rename_nil (n nt : ByteArray) (w : World) : Calls Try.prog 59 #[.pointer none, .string n, .string nt] w fun e w' => e = .returned (.int .i64 3) ∧ Mod NoneB w w' := by
  go_enter Try.func59, Try.ntmps59
  go_wp2_with ((with_reducible refine (with_nil _ _ ⟨_, _, rfl⟩ _).mono ?_); rintro e wz ⟨rfl, hz⟩)
  go_ret
  exact ⟨rfl, ((((Mod.refl NoneB w).alloc _).alloc _).alloc _).then0 hz⟩

set_option maxHeartbeats 1000000 in
set_option maxRecDepth 100000 in
theorem remove_nil (n : ByteArray) (w : World) : Calls Try.prog 61 #[.pointer none, .string n] w fun e w' => e = .returned (.int .i64 3) ∧ Mod NoneB w w' := by
  go_enter Try.func61, Try.ntmps61
  go_wp2_with ((with_reducible refine (with_nil _ _ ⟨_, _, rfl⟩ _).mono ?_); rintro e wz ⟨rfl, hz⟩)
  go_ret
  exact ⟨rfl, ((Mod.refl NoneB w).alloc _).then0 hz⟩

set_option maxHeartbeats 1000000 in
set_option maxRecDepth 100000 in
theorem read_nil (n : ByteArray) (w : World) : Calls Try.prog 52 #[.pointer none, .string n] w fun e w' => e = .returned (.tuple #[.slice none 0 0, .int .i64 3]) ∧ w' = w := by
  go_enter Try.func52, Try.ntmps52
  go_wp2_with fail
  go_ret2
  exact ⟨rfl, rfl⟩

set_option maxHeartbeats 1000000 in
set_option maxRecDepth 100000 in
theorem files_nil (w : World) : Calls Try.prog 65 #[.pointer none] w fun e w' => e = .returned (.slice none 0 0) ∧ w' = w := by
  go_enter Try.func65, Try.ntmps65
  go_wp2_with fail
  go_ret
  exact ⟨rfl, rfl⟩

set_option maxHeartbeats 1000000 in
set_option maxRecDepth 100000 in
theorem callsD_nil (w : World) : Calls Try.prog 17 #[.pointer none] w fun e w' => e = .returned (.int .i64 0) ∧ w' = w := by
  go_enter Try.func17, Try.ntmps17
  go_wp2_with fail
  go_ret
  exact ⟨rfl, rfl⟩

set_option maxHeartbeats 1000000 in
set_option maxRecDepth 100000 in
theorem downD_nil (w : World) : Calls Try.prog 16 #[.pointer none] w fun e w' => e = .returned (.bool false) ∧ w' = w := by
  go_enter Try.func16, Try.ntmps16
  go_wp2_with fail
  go_ret
  exact ⟨rfl, rfl⟩

set_option maxHeartbeats 1000000 in
set_option maxRecDepth 100000 in
theorem restartD_nil (c1 c2 : Int) (d : Bool) (F K : Option Addr) (n m fc kc : Nat) (w : World) :
    Calls Try.prog 44 #[.pointer none, .agg #[.int .i64 c1, .slice F n fc, .int .i64 c2, .bool d, .slice K m kc]] w fun e w' => e = .returned (.tuple #[]) ∧ Mod NoneB w w' := by
  go_enter Try.func44, Try.ntmps44
  go_wp2_with fail
  refine bodyPost_ret (results_none rfl _ _ _) rfl ?_
  exact ⟨rfl, (Mod.refl NoneB w).alloc _⟩
end Go.Proofs.Ytfbnkbdolimojaa
