/- Law 1's awake: the document's example of a disk. -/
import Derived.Test.YtedjfbbfpnkbeaaGreatDoorDkNews
import Derived.Test.YtedjfbbfpnkbeaaGreatDoorPlain
import Derived.Test.YtedjfbbfpnkbeaaGreatDoorConvR
namespace Go.Proofs.YtedjfbbfpnkbeaaGreatDoor
open Go.RowKit
set_option linter.unusedVariables false

def sF : ByteArray := ⟨#[102]⟩
def plE : Pl := ⟨100, [], 0, false, [1]⟩
def dE0 : Dk := ⟨plE, [], 0, false⟩
def dE1 : Dk := ⟨plE, [⟨sF, [], 0⟩], 1, false⟩
def dE2 : Dk := ⟨plE, [⟨sF, [97, 98], 0⟩], 2, false⟩
def dE3 : Dk := ⟨plE, [⟨sF, [97, 98], 2⟩], 3, false⟩
def dE4 : Dk := ⟨plE, [⟨sF, [97, 98, 99, 100], 2⟩], 4, false⟩
def dE5 : Dk := ⟨⟨0, [], 0, false, []⟩, [⟨sF, [97, 98, 99], 3⟩], 0, false⟩
theorem eE1 : createD dE0 sF = (dE1, 0) := by decide +kernel
theorem eE2 : appendD dE1 sF [97, 98] = (dE2, 0) := by decide +kernel
theorem eE3 : syncD dE2 sF = (dE3, 0) := by decide +kernel
theorem eE4 : appendD dE3 sF [99, 100] = (dE4, 0) := by decide +kernel
theorem eE5 : restartD dE4 ⟨0, [], 0, false, []⟩ = dE5 := by decide +kernel
theorem eE6 : readD dE5 sF = ([97, 98, 99], 0) := by decide +kernel

/-- A disk of the law's own: nothing that was there has turned. -/
theorem DTo.go {w wi w' : World} {S S' : Nat → Prop} {p : Nat} {d' : Dk} (h : DTo wi S p d' w' S') (hm : Mod NoneB w wi) (hS : ∀ k, S k → w.heap.size ≤ k) : IsD w' p d' S' ∧ Mod NoneB w w' ∧ ∀ k, S' k → w.heap.size ≤ k :=
  ⟨h.isD, hm.trans_new h.mod (fun k hk => .inr (hS k hk)), fun k hk => (h.new k hk).elim (hS k) (Nat.le_trans hm.size)⟩

set_option maxHeartbeats 2000000 in
set_option maxRecDepth 100000 in
theorem num_calls (k : Int) (w : World) : Calls Tryz.prog 10 #[.int .i64 k] w fun e w' => e = .returned (.int .i64 k) ∧ w' = w := by
  go_enter Tryz.func10, Tryz.ntmps10
  go_wp2_with fail
  go_ret
  exact ⟨rfl, rfl⟩

end Go.Proofs.YtedjfbbfpnkbeaaGreatDoor

/- A disk that there is not: every method's answer. -/
namespace Go.Proofs.YtedjfbbfpnkbeaaGreatDoor
open Go.RowKit
set_option linter.unusedVariables false

set_option maxHeartbeats 1000000 in
set_option maxRecDepth 100000 in
theorem gate_nil (cl : Value) (w : World) : Calls Tryz.prog 49 #[.pointer none, cl] w fun e w' => e = .returned (.int .i64 3) ∧ w' = w := by
  go_enter Tryz.func49, Tryz.ntmps49
  go_wp2_with fail
  go_step3
  go_wp2_with fail
  try rw [Exit.noGoto_ret]
  go_ret
  exact ⟨rfl, rfl⟩

set_option maxHeartbeats 1000000 in
set_option maxRecDepth 100000 in
theorem with_nil (n : ByteArray) (cl : Value) (hcl : ∃ f c, cl = .func f #[] c) (w : World) : Calls Tryz.prog 56 #[.pointer none, .string n, cl] w fun e w' => e = .returned (.int .i64 3) ∧ Mod NoneB w w' := by
  obtain ⟨f, c, rfl⟩ := hcl
  go_enter Tryz.func56, Tryz.ntmps56
  go_wp2_with ((with_reducible refine (gate_nil _ _).mono ?_); rintro e wz ⟨rfl, rfl⟩)
  go_ret
  exact ⟨rfl, (((Mod.refl NoneB w).alloc _).alloc _).alloc _⟩

set_option maxHeartbeats 1000000 in
set_option maxRecDepth 100000 in
theorem create_nil (n : ByteArray) (w : World) : Calls Tryz.prog 24 #[.pointer none, .string n] w fun e w' => e = .returned (.int .i64 3) ∧ Mod NoneB w w' := by
  go_enter Tryz.func24, Tryz.ntmps24
  go_wp2_with ((with_reducible refine (gate_nil _ _).mono ?_); rintro e wz ⟨rfl, rfl⟩)
  go_ret
  exact ⟨rfl, ((Mod.refl NoneB w).alloc _).alloc _⟩

set_option maxHeartbeats 1000000 in
set_option maxRecDepth 100000 in
theorem append_nil (n : ByteArray) (B : Option Addr) (k c : Nat) (w : World) : Calls Tryz.prog 38 #[.pointer none, .string n, .slice B k c] w fun e w' => e = .returned (.int .i64 3) ∧ Mod NoneB w w' := by
  go_enter Tryz.func38, Tryz.ntmps38
  go_wp2_with ((with_reducible refine (with_nil _ _ ⟨_, _, rfl⟩ _).mono ?_); rintro e wz ⟨rfl, hz⟩)
  go_ret
  exact ⟨rfl, (((Mod.refl NoneB w).alloc _).alloc _).then0 hz⟩

set_option maxHeartbeats 1000000 in
set_option maxRecDepth 100000 in
theorem sync_nil (n : ByteArray) (w : World) : Calls Tryz.prog 28 #[.pointer none, .string n] w fun e w' => e = .returned (.int .i64 3) ∧ Mod NoneB w w' := by
  go_enter Tryz.func28, Tryz.ntmps28
  go_wp2_with ((with_reducible refine (with_nil _ _ ⟨_, _, rfl⟩ _).mono ?_); rintro e wz ⟨rfl, hz⟩)
  go_ret
  exact ⟨rfl, (Mod.refl NoneB w).then0 hz⟩

set_option maxHeartbeats 1000000 in
set_option maxRecDepth 100000 in
theorem cut_nil (n : ByteArray) (k : Int) (w : World) : Calls Tryz.prog 27 #[.pointer none, .string n, .int .i64 k] w fun e w' => e = .returned (.int .i64 3) ∧ Mod NoneB w w' := by
  go_enter Tryz.func27, Tryz.ntmps27
  go_wp2_with ((with_reducible refine (with_nil _ _ ⟨_, _, rfl⟩ _).mono ?_); rintro e wz ⟨rfl, hz⟩)
  go_ret
  exact ⟨rfl, ((Mod.refl NoneB w).alloc _).then0 hz⟩



set_option maxHeartbeats 1000000 in
set_option maxRecDepth 100000 in
theorem read_nil (n : ByteArray) (w : World) : Calls Tryz.prog 23 #[.pointer none, .string n] w fun e w' => e = .returned (.tuple #[.slice none 0 0, .int .i64 3]) ∧ w' = w := by
  go_enter Tryz.func23, Tryz.ntmps23
  go_wp2_with fail
  go_ret2
  exact ⟨rfl, rfl⟩

set_option maxHeartbeats 1000000 in
set_option maxRecDepth 100000 in
theorem files_nil (w : World) : Calls Tryz.prog 43 #[.pointer none] w fun e w' => e = .returned (.slice none 0 0) ∧ w' = w := by
  go_enter Tryz.func43, Tryz.ntmps43
  go_wp2_with fail
  go_ret
  exact ⟨rfl, rfl⟩

set_option maxHeartbeats 1000000 in
set_option maxRecDepth 100000 in
theorem callsD_nil (w : World) : Calls Tryz.prog 44 #[.pointer none] w fun e w' => e = .returned (.int .i64 0) ∧ w' = w := by
  go_enter Tryz.func44, Tryz.ntmps44
  go_wp2_with fail
  go_ret
  exact ⟨rfl, rfl⟩

set_option maxHeartbeats 1000000 in
set_option maxRecDepth 100000 in
theorem downD_nil (w : World) : Calls Tryz.prog 45 #[.pointer none] w fun e w' => e = .returned (.bool false) ∧ w' = w := by
  go_enter Tryz.func45, Tryz.ntmps45
  go_wp2_with fail
  go_ret
  exact ⟨rfl, rfl⟩

set_option maxHeartbeats 1000000 in
set_option maxRecDepth 100000 in
theorem restartD_nil (c1 c2 : Int) (d : Bool) (F K : Option Addr) (n m fc kc : Nat) (w : World) :
    Calls Tryz.prog 12 #[.pointer none, .agg #[.int .i64 c1, .slice F n fc, .int .i64 c2, .bool d, .slice K m kc]] w fun e w' => e = .returned (.tuple #[]) ∧ Mod NoneB w w' := by
  go_enter Tryz.func12, Tryz.ntmps12
  go_wp2_with fail
  refine bodyPost_ret (results_none rfl _ _ _) rfl ?_
  exact ⟨rfl, (Mod.refl NoneB w).alloc _⟩
end Go.Proofs.YtedjfbbfpnkbeaaGreatDoor

