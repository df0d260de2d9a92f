/- DiskNil: the walk of the law. -/
import Derived.Test.YtnoleekdldmagaaDkNil
namespace Go.Proofs.Ytnoleekdldmagaa
open Go.RowKit
set_option linter.unusedVariables false

set_option maxHeartbeats 2000000 in
set_option maxRecDepth 100000 in
theorem diskNil_walk (name : ByteArray) (n : Int) (c1 c2 : Int) (d : Bool) (F K : Option Addr) (nf nk fc kc : Nat) (w : World) :
    Calls Try.prog 14 #[.string name, .int .i64 n, .agg #[.int .i64 c1, .slice F nf fc, .int .i64 c2, .bool d, .slice K nk kc]] w fun e w' => e = .returned (.bool true) ∧ Mod NoneB w w' := by
  have HM : Mod NoneB w (w.alloc (.cells #[.int .i64 c1, .slice F nf fc, .int .i64 c2, .bool d, .slice K nk kc] 41)) := (Mod.refl NoneB w).alloc _
  go_enter Try.func14, Try.ntmps14
  go_wp2_with (first
    | ((with_reducible refine (num_calls _ _).mono ?_); rintro e wz ⟨rfl, rfl⟩)
    | ((with_reducible refine (read_nil _ _).mono ?_); rintro e wz ⟨rfl, rfl⟩)
    | ((with_reducible refine (files_nil _).mono ?_); rintro e wz ⟨rfl, rfl⟩)
    | ((with_reducible refine (callsD_nil _).mono ?_); rintro e wz ⟨rfl, rfl⟩)
    | ((with_reducible refine (downD_nil _).mono ?_); rintro e wz ⟨rfl, rfl⟩)
    | ((with_reducible refine (restartD_nil _ _ _ _ _ _ _ _ _ _).mono ?_); rintro e wz ⟨rfl, hz⟩; replace HM := HM.then0 hz; clear hz)
    | ((with_reducible refine (create_nil _ _).mono ?_); rintro e wz ⟨rfl, hz⟩; replace HM := HM.then0 hz; clear hz)
    | ((with_reducible refine (append_nil _ _ _ _ _).mono ?_); rintro e wz ⟨rfl, hz⟩; replace HM := HM.then0 hz; clear hz)
    | ((with_reducible refine (sync_nil _ _).mono ?_); rintro e wz ⟨rfl, hz⟩; replace HM := HM.then0 hz; clear hz)
    | ((with_reducible refine (cut_nil _ _ _).mono ?_); rintro e wz ⟨rfl, hz⟩; replace HM := HM.then0 hz; clear hz)
    | ((with_reducible refine (rename_nil _ _ _).mono ?_); rintro e wz ⟨rfl, hz⟩; replace HM := HM.then0 hz; clear hz)
    | ((with_reducible refine (remove_nil _ _).mono ?_); rintro e wz ⟨rfl, hz⟩; replace HM := HM.then0 hz; clear hz)
    | ((with_reducible refine (awake1_calls _).mono ?_); rintro e wz ⟨rfl, hz⟩; replace HM := HM.then0 hz; clear hz))
  go_ret
  exact ⟨rfl, HM⟩
end Go.Proofs.Ytnoleekdldmagaa
