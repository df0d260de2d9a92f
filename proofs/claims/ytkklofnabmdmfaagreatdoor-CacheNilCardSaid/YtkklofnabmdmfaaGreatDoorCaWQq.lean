/- cache.New, Put, Lost, and all of a cache that there is not. -/
import Derived.Test.YtkklofnabmdmfaaGreatDoorCaMQq
import Derived.Test.YtkklofnabmdmfaaGreatDoorBsTQq
import Derived.Test.YtkklofnabmdmfaaGreatDoorKyWQq
namespace Go.Proofs.YtkklofnabmdmfaaGreatDoor
open Go.RowKit
set_option linter.unusedVariables false

theorem cput_nil (a b : ByteArray) (w : World) : Calls Tryz.prog 8 #[.pointer none, .string a, .string b] w fun e w' => e = .returned (.tuple #[]) ∧ w' = w := by
  go_enter Tryz.func8, Tryz.ntmps8
  go_wp2_with fail
  refine bodyPost_ret (results_none rfl _ _ _) rfl ?_
  exact ⟨rfl, rfl⟩
theorem cflush_nil (w : World) : Calls Tryz.prog 9 #[.pointer none] w fun e w' => e = .returned (.tuple #[]) ∧ w' = w := by
  go_enter Tryz.func9, Tryz.ntmps9
  go_wp2_with fail
  refine bodyPost_ret (results_none rfl _ _ _) rfl ?_
  exact ⟨rfl, rfl⟩
theorem cget_nil (a : ByteArray) (v : Value) (w : World) : Calls Tryz.prog 10 #[.pointer none, .string a, v] w fun e w' => e = .returned (.tuple #[.slice none 0 0, .slice none 0 0, .bool false, .bool false]) ∧ w' = w := by
  go_enter Tryz.func10, Tryz.ntmps10
  go_wp2_with fail
  (try simp only [Exit.inBlock, Exit.then])
  refine bodyPost_ret (results_tmp4 rfl _ _ _) rfl ?_
  exact ⟨rfl, rfl⟩
theorem clost_nil (w : World) : Calls Tryz.prog 12 #[.pointer none] w fun e w' => e = .returned (.bool false) ∧ w' = w := by
  go_enter Tryz.func12, Tryz.ntmps12
  go_wp2_with fail
  go_ret
  exact ⟨rfl, rfl⟩
theorem clost_calls (c : Nat) (w : World) (sp mp v : Value) (b : Bool) (hb : w.heap[c]? = some (.cells #[sp, .bool b, mp, v] 60 (0, 0))) :
    Calls Tryz.prog 12 #[.pointer (some ⟨c, 0, none⟩)] w fun e w' => e = .returned (.bool b) ∧ w' = w := by
  have c1 := blk_cell hb 1
  go_enter Tryz.func12, Tryz.ntmps12
  go_wp2_with fail
  go_ret
  exact ⟨rfl, rfl⟩
/-- A cache that was just made, beside its store. -/
structure NewC (w w' : World) (c mb : Nat) (P : Option Addr) (k : Int) : Prop where
  blk : w'.heap[c]? = some (.cells #[.pointer P, .bool (k != 0), .map (some mb), .slice none 0 0] 60 (0, 0))
  map : KnM w' mb 0 (fun _ => none)
  mod : Mod NoneB w w'
  newc : w.heap.size ≤ c
  newm : w.heap.size ≤ mb
  ne : c ≠ mb
set_option maxHeartbeats 1000000 in
set_option maxRecDepth 100000 in
theorem cnew_calls {w : World} {D : Option Addr} {most : Int} {Q : Option Addr → Int → World → Prop} (h : Calls Tryz.prog 17 #[.pointer D, .int .i64 most] w fun e w' => ∃ P k, e = .returned (.tuple #[.pointer P, .int .i64 k]) ∧ Q P k w') :
    Calls Tryz.prog 11 #[.pointer D, .int .i64 most] w fun e w' => ∃ P k w1 c mb, Q P k w1 ∧ e = .returned (.pointer (some ⟨c, 0, none⟩)) ∧ NewC w1 w' c mb P k := by
  have hmm := @run_makeMap Tryz.prog
  go_enter Tryz.func11, Tryz.ntmps11
  go_wp2_with fail
  refine h.mono ?_
  rintro e w1 ⟨P, k, rfl, hq⟩
  go_wp2_with fail
  go_ret
  refine ⟨P, k, w1, w1.heap.size + 1, w1.heap.size, hq, rfl, ?_⟩
  have hm1 : Mod NoneB w1 (w1.alloc (.map #[] 0)) := (Mod.refl _ _).alloc _
  have hs1 : (w1.alloc (.map #[] 0)).heap.size = w1.heap.size + 1 := by simp
  have hb := heap_alloc_new (w1.alloc (.map #[] 0)) (.cells #[.pointer P, .bool (k != 0), .map (some w1.heap.size), .slice none 0 0] 60 (0, 0))
  rw [hs1] at hb
  exact ⟨hb, (KnM.made w1).mod0 ((Mod.refl _ _).alloc _), hm1.alloc _, by omega, Nat.le_refl _, by omega⟩
end Go.Proofs.YtkklofnabmdmfaaGreatDoor
