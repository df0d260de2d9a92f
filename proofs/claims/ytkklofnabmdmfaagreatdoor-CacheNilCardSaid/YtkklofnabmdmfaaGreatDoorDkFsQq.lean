/- Plain facts on rows and on places among pairs. No program stands here. -/
import Derived.ProofKit
import Derived.OpenShut
import Derived.ShutString
import Derived.ChangeOld
import Derived.Deep.Slices
import Derived.Test.YtkklofnabmdmfaaGreatDoorOrdMapQq
import Derived.Test.YtkklofnabmdmfaaGreatDoorRowQq
import Derived.Test.YtkklofnabmdmfaaGreatDoorConvRQq
import Derived.Test.YtkklofnabmdmfaaGreatDoorDkModQq
import Derived.Test.YtkklofnabmdmfaaGreatDoorDkNewsQq
namespace Go.Proofs.YtkklofnabmdmfaaGreatDoor
open Go.RowKit
set_option linter.unusedVariables false

theorem rd_blk {w : World} {g sz n : Nat} {cs : Array Value} {t : TypeId} {f : Nat × Nat} (h : w.heap[g]? = some (.cells cs t f)) (hl : cs.size = n * sz) (hn : n ≤ 9223372036854775807) : Rd w sz (some ⟨g, 0, none⟩) n cs.toList :=
  ⟨by simpa using hl, hn, fun _ => ⟨_, rfl, fun j u hu => by rw [add_zero, blk_cell h]; simpa using hu⟩⟩
end Go.Proofs.YtkklofnabmdmfaaGreatDoor

/- The disk in plain words: where nothing fails and nothing crashes; a disk of one file. No program stands here. -/
namespace Go.Proofs.YtkklofnabmdmfaaGreatDoor

/-- A disk whose plan names nothing. -/
def freeD (cap : Int) (keep : List Int) (fs : List Fl) (c : Nat) : Dk := ⟨⟨cap, [], 0, false, keep⟩, fs, c, false⟩
theorem lbF_cons (f : Fl) (fs : List Fl) (n : ByteArray) : lbF (f :: fs) n = if cmpS f.n n < 0 then lbF fs n + 1 else 0 := lb_cons _ _ _
theorem hitF_cons (f : Fl) (fs : List Fl) (n : ByteArray) : hitF (f :: fs) n = if cmpS f.n n < 0 then hitF fs n else decide (f.n = n) := hitB_cons _ _ _
theorem lbF_one (n : ByteArray) (b : List UInt8) (s : Nat) (l : List Fl) : lbF (⟨n, b, s⟩ :: l) n = 0 := by rw [lbF_cons, if_neg (lt_irrefl _)]
theorem hitF_one (n : ByteArray) (b : List UInt8) (s : Nat) (l : List Fl) : hitF (⟨n, b, s⟩ :: l) n = true := by rw [hitF_cons, if_neg (lt_irrefl _)]; simp

end Go.Proofs.YtkklofnabmdmfaaGreatDoor

/- What acts make of a disk's files: names rise, none is empty. No program stands here. -/
namespace Go.Proofs.YtkklofnabmdmfaaGreatDoor

end Go.Proofs.YtkklofnabmdmfaaGreatDoor

/- Law 1's awake: the document's example of a disk. -/
namespace Go.Proofs.YtkklofnabmdmfaaGreatDoor
open Go.RowKit
set_option linter.unusedVariables false

end Go.Proofs.YtkklofnabmdmfaaGreatDoor

/- A disk that there is not: every method's answer. -/
namespace Go.Proofs.YtkklofnabmdmfaaGreatDoor
open Go.RowKit
set_option linter.unusedVariables false

set_option maxHeartbeats 1000000 in
set_option maxRecDepth 100000 in
theorem read_nil (n : ByteArray) (w : World) : Calls Tryz.prog 52 #[.pointer none, .string n] w fun e w' => e = .returned (.tuple #[.slice none 0 0, .int .i64 3]) ∧ w' = w := by
  go_enter Tryz.func52, Tryz.ntmps52
  go_wp2_with fail
  go_ret2
  exact ⟨rfl, rfl⟩

end Go.Proofs.YtkklofnabmdmfaaGreatDoor

/- A disk in blocks of the law's own: each of its calls in one line. -/
namespace Go.Proofs.YtkklofnabmdmfaaGreatDoor
open Go.RowKit
set_option linter.unusedVariables false

/-- In the world w a disk d lies behind p, in blocks that are newer than the world w0; all that was in w0 is as it was. -/
def Dw (w0 w : World) (p : Nat) (d : Dk) : Prop := ∃ S, IsD w p d S ∧ Mod NoneB w0 w ∧ ∀ k, S k → w0.heap.size ≤ k
structure Fits (d : Dk) : Prop where
  c : d.c < 4611686018427387904
  l : d.fs.length ≤ 1099511627776
  u : usedF d.fs ≤ 70368744177664

theorem Dw.new (w0 w : World) (hm : Mod NoneB w0 w) (pl : Pl) (F K : Option Addr) (fc kc : Nat) (hF : Rd w 1 F pl.fail.length (encI pl.fail)) (hK : Rd w 1 K pl.keep.length (encI pl.keep)) (hf : pl.fail.length ≤ 1099511627776) (hk : pl.keep.length ≤ 1099511627776) :
    Calls Tryz.prog 14 #[.agg #[.int .i64 pl.cap, .slice F pl.fail.length fc, .int .i64 pl.crash, .bool pl.done, .slice K pl.keep.length kc]] w fun e w' =>
      ∃ p, e = .returned (.pointer (some ⟨p, 0, none⟩)) ∧ Dw w0 w' p ⟨pl, [], 0, false⟩ := by
  refine (new_calls w pl F K fc kc hF hK hf hk).mono ?_
  rintro e w1 ⟨p, S, rfl, h1, h2, h3⟩
  exact ⟨p, rfl, S, h1, hm.then0 h2, fun k hk => Nat.le_trans hm.size (h3 k hk)⟩
theorem Dw.new0 (w0 w : World) (hm : Mod NoneB w0 w) (cap : Int) :
    Calls Tryz.prog 14 #[.agg #[.int .i64 cap, .slice none 0 0, .int .i64 0, .bool false, .slice none 0 0]] w fun e w' => ∃ p, e = .returned (.pointer (some ⟨p, 0, none⟩)) ∧ Dw w0 w' p (freeD cap [] [] 0) :=
  Dw.new w0 w hm ⟨cap, [], 0, false, []⟩ none none 0 0 (Rd.nil _ _ _) (Rd.nil _ _ _) (Nat.zero_le _) (Nat.zero_le _)
end Go.Proofs.YtkklofnabmdmfaaGreatDoor

/- A disk's Files. -/
namespace Go.Proofs.YtkklofnabmdmfaaGreatDoor
open Go.RowKit
set_option linter.unusedVariables false

end Go.Proofs.YtkklofnabmdmfaaGreatDoor

/- A disk beside blocks that are kept: each of its calls in one line. -/
namespace Go.Proofs.YtkklofnabmdmfaaGreatDoor
open Go.RowKit
set_option linter.unusedVariables false

/-- In the world w a disk d lies behind p; from w0 on the blocks F were kept, and the disk has none of them. -/
def Dx (F : Nat → Prop) (w0 w : World) (p : Nat) (d : Dk) : Prop := ∃ S, IsD w p d S ∧ Mod (fun k => ¬ F k) w0 w ∧ (∀ k, S k → ¬ F k) ∧ ∀ k, F k → k < w0.heap.size
theorem Dx.mod0 {F : Nat → Prop} {w0 w w1 : World} {p : Nat} {d : Dk} (h : Dx F w0 w p d) (hm : Mod NoneB w w1) : Dx F w0 w1 p d := by
  obtain ⟨S, h1, h2, h3, h4⟩ := h
  exact ⟨S, h1.mod0 hm, h2.then0 hm, h3, h4⟩

theorem Dx.read {Kp : Nat → Prop} {w0 w : World} {p : Nat} {d : Dk} (h : Dx Kp w0 w p d) (n : ByteArray) (hf : Fits d) :
    Calls Tryz.prog 52 #[.pointer (some ⟨p, 0, none⟩), .string n] w fun e w' =>
      ∃ v, e = .returned (.tuple #[v, .int .i64 (readD d n).2]) ∧ Own w' 5 1 v (readD d n).1.length (encB (readD d n).1) ∧ Dx Kp w0 w' p d ∧ Mod NoneB w w' ∧ (∀ g, v.ownBlock = some g → w.heap.size ≤ g) := by
  obtain ⟨S, h1, h2, h3, h4⟩ := h
  refine (read_calls w p d S n h1 (Nat.le_trans hf.l (by decide)) hf.u).mono ?_
  rintro e w1 ⟨v, rfl, g4, h5, h6⟩
  exact ⟨v, rfl, g4, ⟨S, h1.mod0 h5, h2.then0 h5, h3, h4⟩, h5, h6⟩
end Go.Proofs.YtkklofnabmdmfaaGreatDoor
