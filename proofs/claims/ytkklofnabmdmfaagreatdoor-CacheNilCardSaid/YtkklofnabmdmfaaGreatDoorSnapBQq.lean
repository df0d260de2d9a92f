/- snap.Load. -/
import Derived.StillTailTactics
import Derived.Deep.DrawnRows
import Derived.Test.YtkklofnabmdmfaaGreatDoorTabAQq
import Derived.Test.YtkklofnabmdmfaaGreatDoorTabEQq
import Derived.Test.YtkklofnabmdmfaaGreatDoorRefCQq
import Derived.Test.YtkklofnabmdmfaaGreatDoorSnapPQq
import Derived.Test.YtkklofnabmdmfaaGreatDoorDkFsQq
namespace Go.Proofs.YtkklofnabmdmfaaGreatDoor
open Go.RowKit
set_option linter.unusedVariables false

/-- What is loaded from a disk. -/
def loadR (d : Dk) : List Pr × Nat := if (readD d sSnap).2 = 3 then ([], 0) else if (readD d sSnap).2 = 0 then ((fromT (readD d sSnap).1).getD [], errP (fromT (readD d sSnap).1)) else ([], (readD d sSnap).2)
def LoadE (r : List Pr × Nat) (Kp : Nat → Prop) (w0 w : World) (p : Nat) (d : Dk) (e : Ending) (w' : World) : Prop :=
  ∃ v, e = .returned (.tuple #[v, .int .i64 r.2]) ∧ Own w' 88 2 v r.1.length (encPs r.1) ∧ Dx Kp w0 w' p d ∧ Mod NoneB w w' ∧ (∀ g, v.ownBlock = some g → w.heap.size ≤ g)
theorem readD_le (d : Dk) (n : ByteArray) : (readD d n).1.length ≤ usedF d.fs := by
  unfold readD
  split
  · exact Nat.zero_le _
  · split
    · rename_i h
      rw [fileAt_get (hitF_lt h)]
      exact usedF_get _ _ _
    · exact Nat.zero_le _
theorem readD_err (d : Dk) (n : ByteArray) : (readD d n).2 = 0 ∨ (readD d n).2 = 3 ∨ (readD d n).2 = 7 := by
  unfold readD
  split
  · exact .inr (.inr rfl)
  · split
    · exact .inl rfl
    · exact .inr (.inl rfl)

set_option maxHeartbeats 4000000 in
set_option maxRecDepth 100000 in
theorem load_calls {Kp : Nat → Prop} {w0 w : World} {p : Nat} {d : Dk} (h : Dx Kp w0 w p d) (hf : Fits d) (hu : usedF d.fs ≤ 1099511627776) :
    Calls Tryz.prog 30 #[.pointer (some ⟨p, 0, none⟩)] w (LoadE (loadR d) Kp w0 w p d) := by
  have hle := readD_le d sSnap
  have herr := readD_err d sSnap
  have hR : ∃ R, R = readD d sSnap := ⟨_, rfl⟩
  go_enter Tryz.func30, Tryz.ntmps30
  go_wp2_with fail
  refine (h.read sSnap hf).mono ?_
  rintro e w1 ⟨v, rfl, hov, hD, hm, hn⟩
  obtain ⟨R, hR⟩ := hR
  have hl : loadR d = if R.2 = 3 then ([], 0) else if R.2 = 0 then ((fromT R.1).getD [], errP (fromT R.1)) else ([], R.2) := by rw [hR]; rfl
  rw [← hR] at hov hle herr ⊢
  have HL := Lib.hid hl
  obtain ⟨b, e⟩ := R
  simp only at hov hle herr HL
  clear hl hR
  obtain ⟨A, c, rfl, hbc, _, hrb⟩ := hov.out
  clear hov
  rcases herr with rfl | rfl | rfl
  · go_wp2_with fail
    refine (tdecode_calls b A c w1 hrb (by omega) hbc).mono ?_
    rintro ez w2 ⟨v2, rfl, ho2, hm2, hn2⟩
    have hl2 : loadR d = ((fromT b).getD [], errP (fromT b)) := by rw [HL.out]; simp
    have HL2 := Lib.hid hl2
    have HO2 := Lib.hid ho2
    have HN2 := Lib.hid hn2
    obtain ⟨A2, c2, rfl, _⟩ := ho2.nilD0
    obtain ⟨q, hq⟩ : ∃ q, q = (fromT b).getD [] := ⟨_, rfl⟩
    obtain ⟨ee, hee⟩ : ∃ q, q = errP (fromT b) := ⟨_, rfl⟩
    rw [← hq] at HO2 HN2 HL2 ⊢
    rw [← hee] at HL2 ⊢
    clear hl2 ho2 hn2 hq hee HL
    go_wp2_with fail
    go_ret2
    rw [HL2.out]
    exact ⟨_, rfl, HO2.out, hD.mod0 hm2, hm.then0 hm2, fun g hg => Nat.le_trans hm.size (HN2.out g hg)⟩
  · go_wp2_with fail
    go_ret2
    have hl2 : loadR d = ([], 0) := by rw [HL.out]; simp
    rw [hl2]
    exact ⟨_, rfl, Own.nil _ _ _, hD, hm, fun g h => by simp [Value.ownBlock] at h⟩
  · go_wp2_with fail
    go_ret2
    have hl2 : loadR d = ([], 7) := by rw [HL.out]; simp
    rw [hl2]
    exact ⟨_, rfl, Own.nil _ _ _, hD, hm, fun g h => by simp [Value.ownBlock] at h⟩
end Go.Proofs.YtkklofnabmdmfaaGreatDoor

/- The calls of a save: snap.saving's methods. -/
namespace Go.Proofs.YtkklofnabmdmfaaGreatDoor
open Go.RowKit
set_option linter.unusedVariables false

end Go.Proofs.YtkklofnabmdmfaaGreatDoor

/- snap.Save. -/
namespace Go.Proofs.YtkklofnabmdmfaaGreatDoor
open Go.RowKit
set_option linter.unusedVariables false

end Go.Proofs.YtkklofnabmdmfaaGreatDoor

/- Layer 8's document's example; a save beside bytes that are there: plain facts and walks. -/
namespace Go.Proofs.YtkklofnabmdmfaaGreatDoor
open Go.RowKit
set_option linter.unusedVariables false

theorem ltST : cmpS sSnap sTmp < 0 := by decide +kernel

set_option maxHeartbeats 1000000 in
set_option maxRecDepth 100000 in
theorem load_nil (w : World) : Calls Tryz.prog 30 #[.pointer none] w fun e w' => e = .returned (.tuple #[.slice none 0 0, .int .i64 3]) ∧ w' = w := by
  go_enter Tryz.func30, Tryz.ntmps30
  go_wp2_with ((with_reducible refine (read_nil _ _).mono ?_); rintro e wz ⟨rfl, rfl⟩)
  go_ret2
  exact ⟨rfl, rfl⟩
end Go.Proofs.YtkklofnabmdmfaaGreatDoor

/- Saves on a disk that has at most the two files of a save: what they make of it, whatever the plan. No program stands here. -/
namespace Go.Proofs.YtkklofnabmdmfaaGreatDoor
set_option linter.unusedVariables false

def T1 (t : List UInt8) (u : Nat) : List Fl := [⟨sTmp, t, u⟩]

end Go.Proofs.YtkklofnabmdmfaaGreatDoor

/- The table of pairs that were made right: plain facts. -/
namespace Go.Proofs.YtkklofnabmdmfaaGreatDoor
set_option linter.unusedVariables false

end Go.Proofs.YtkklofnabmdmfaaGreatDoor
