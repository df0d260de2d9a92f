/- Law 1's awake: the document's example of a disk. -/
import Derived.Test.YtfbnkbdolimojaaDkNews
import Derived.Test.YtfbnkbdolimojaaTabA
import Derived.Test.YtfbnkbdolimojaaConv
namespace Go.Proofs.Ytfbnkbdolimojaa
open Go.RowKit
set_option linter.unusedVariables false

def sF : ByteArray := ⟨#[102]⟩
def plE : Pl := ⟨100, [], 0, false, [1]⟩
def dE0 : Dk := ⟨plE, [], 0, false⟩
def dE1 : Dk := ⟨plE, [⟨sF, [], 0⟩], 1, false⟩
def dE2 : Dk := ⟨plE, [⟨sF, [97, 98], 0⟩], 2, false⟩
def dE3 : Dk := ⟨plE, [⟨sF, [97, 98], 2⟩], 3, false⟩
def dE4 : Dk := ⟨plE, [⟨sF, [97, 98, 99, 100], 2⟩], 4, false⟩
def dE5 : Dk := ⟨⟨0, [], 0, false, []⟩, [⟨sF, [97, 98, 99], 3⟩], 0, false⟩
theorem eE1 : createD dE0 sF = (dE1, 0) := by decide +kernel
theorem eE2 : appendD dE1 sF [97, 98] = (dE2, 0) := by decide +kernel
theorem eE3 : syncD dE2 sF = (dE3, 0) := by decide +kernel
theorem eE4 : appendD dE3 sF [99, 100] = (dE4, 0) := by decide +kernel
theorem eE5 : restartD dE4 ⟨0, [], 0, false, []⟩ = dE5 := by decide +kernel
theorem eE6 : readD dE5 sF = ([97, 98, 99], 0) := by decide +kernel

/-- A disk of the law's own: nothing that was there has turned. -/
theorem DTo.go {w wi w' : World} {S S' : Nat → Prop} {p : Nat} {d' : Dk} (h : DTo wi S p d' w' S') (hm : Mod NoneB w wi) (hS : ∀ k, S k → w.heap.size ≤ k) : IsD w' p d' S' ∧ Mod NoneB w w' ∧ ∀ k, S' k → w.heap.size ≤ k :=
  ⟨h.isD, hm.trans_new h.mod (fun k hk => .inr (hS k hk)), fun k hk => (h.new k hk).elim (hS k) (Nat.le_trans hm.size)⟩

set_option maxHeartbeats 2000000 in
set_option maxRecDepth 100000 in
theorem num_calls (k : Int) (w : World) : Calls Try.prog 33 #[.int .i64 k] w fun e w' => e = .returned (.int .i64 k) ∧ w' = w := by
  go_enter Try.func33, Try.ntmps33
  go_wp2_with fail
  go_ret
  exact ⟨rfl, rfl⟩

set_option maxHeartbeats 2000000 in
set_option maxRecDepth 100000 in
theorem awake1_calls (w : World) : Calls Try.prog 12 #[] w fun e w' => e = .returned (.bool true) ∧ Mod NoneB w w' := by
  go_enter Try.func12, Try.ntmps12
  go_wp2_with fail
  have hm0 : Mod NoneB w (w.alloc (.cells #[.int .i64 1] 3)) := (Mod.refl NoneB _).alloc _
  have hK : Rd (w.alloc (.cells #[.int .i64 1] 3)) 1 (some ⟨w.heap.size, 0, none⟩) 1 (encI [1]) := rd_blk (box1 w _) rfl (by omega)
  refine (new_calls _ plE none (some ⟨w.heap.size, 0, none⟩) 0 1 (Rd.nil _ _ _) hK (by decide) (by decide)).mono ?_
  rintro e w1 ⟨p, S, rfl, hd0, hm1, hS1⟩
  have hmw1 := hm0.then0 hm1
  have hSw : ∀ k, S k → w.heap.size ≤ k := fun k hk => Nat.le_trans hm0.size (hS1 k hk)
  clear hm0 hK hm1 hS1
  go_wp2_with fail
  refine (create_calls w1 p dE0 S sF hd0 (by decide) (by decide)).mono ?_
  rintro e w2 ⟨rfl, S2, hto⟩
  rw [eE1] at hto ⊢
  obtain ⟨hd1, hmw2, hSw2⟩ := hto.go hmw1 hSw
  clear hto hmw1 hSw hd0
  obtain ⟨wv, hcv, ⟨fv, hgv⟩, hmv⟩ := conv_lit (n := 2) (c := 2) (box1 w2 (.cells #[.int .u8 97, .int .u8 98] 5))
  have hma : Mod NoneB w2 wv := ((Mod.refl NoneB w2).alloc _).trans hmv (fun k hk he => by omega)
  have hRa : Rd wv 1 (some ⟨w2.heap.size, 0, none⟩) 2 (encB [97, 98]) := rd_blk hgv rfl (by omega)
  go_wp2_with fail
  refine (append_calls _ p dE1 S2 sF [97, 98] (some ⟨w2.heap.size, 0, none⟩) 2 (hd1.mod0 hma) hRa (fun _ ad h hs => by injection h with h; subst h; exact hd1.notS (Nat.le_refl _) hs) (by decide) (by decide) (by decide)).mono ?_
  rintro e w3 ⟨rfl, S3, hto⟩
  rw [eE2] at hto ⊢
  obtain ⟨hd2, hmw3, hSw3⟩ := hto.go (hmw2.then0 hma) hSw2
  clear hto hmw2 hSw2 hd1 hma hRa hcv hgv hmv
  go_wp2_with fail
  refine (sync_calls w3 p dE2 S3 sF hd2 (by decide) (by decide)).mono ?_
  rintro e w4 ⟨rfl, S4, hto⟩
  rw [eE3] at hto ⊢
  obtain ⟨hd3, hmw4, hSw4⟩ := hto.go hmw3 hSw3
  clear hto hmw3 hSw3 hd2
  obtain ⟨wv, hcv, ⟨fv, hgv⟩, hmv⟩ := conv_lit (n := 2) (c := 2) (box1 w4 (.cells #[.int .u8 99, .int .u8 100] 5))
  have hma : Mod NoneB w4 wv := ((Mod.refl NoneB w4).alloc _).trans hmv (fun k hk he => by omega)
  have hRa : Rd wv 1 (some ⟨w4.heap.size, 0, none⟩) 2 (encB [99, 100]) := rd_blk hgv rfl (by omega)
  go_wp2_with fail
  refine (append_calls _ p dE3 S4 sF [99, 100] (some ⟨w4.heap.size, 0, none⟩) 2 (hd3.mod0 hma) hRa (fun _ ad h hs => by injection h with h; subst h; exact hd3.notS (Nat.le_refl _) hs) (by decide) (by decide) (by decide)).mono ?_
  rintro e w5 ⟨rfl, S5, hto⟩
  rw [eE4] at hto ⊢
  obtain ⟨hd4, hmw5, hSw5⟩ := hto.go (hmw4.then0 hma) hSw4
  clear hto hmw4 hSw4 hd3 hma hRa hcv hgv hmv
  go_wp2_with fail
  refine (restart_calls w5 p dE4 S5 ⟨0, [], 0, false, []⟩ none none 0 0 hd4 (Rd.nil _ _ _) (Rd.nil _ _ _) (fun _ ad h => by cases h) (fun _ ad h => by cases h) (by decide) (by decide) (by decide) (by decide)).mono ?_
  rintro e w6 ⟨rfl, S6, hto⟩
  rw [eE5] at hto
  obtain ⟨hd5, hmw6, hSw6⟩ := hto.go hmw5 hSw5
  clear hto hmw5 hSw5 hd4
  go_wp2_with fail
  refine (read_calls w6 p dE5 S6 sF hd5 (by decide) (by decide)).mono ?_
  rintro e w7 ⟨v, rfl, hov, hm7, _⟩
  rw [eE6] at hov ⊢
  have hmw7 := hmw6.then0 hm7
  clear hmw6 hm7 hd5 hSw6
  obtain ⟨V, c, rfl, _, _, hrv⟩ := hov.out
  have hcs : (convert 33 9 (.slice V 3 c)).run Try.prog w7 = .ok (.string ⟨#[97, 98, 99]⟩) w7 := conv_str (b := [97, 98, 99]) hrv
  clear hov hrv
  go_wp2_with ((with_reducible refine (num_calls _ _).mono ?_); rintro e wz ⟨rfl, rfl⟩)
  go_ret
  exact ⟨rfl, hmw7⟩
end Go.Proofs.Ytfbnkbdolimojaa
