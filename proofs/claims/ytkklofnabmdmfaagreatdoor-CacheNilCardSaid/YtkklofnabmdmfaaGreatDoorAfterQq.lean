/- Words on worlds that all texts of this seat use: what a call may have changed, what is read, what is owned. No program stands here. -/
import Derived.WalkKit
import Derived.KernelRfl
import Derived.Deep.LoopGhost
import Derived.Deep.QuietTactic
import Derived.BigQuiet
import Derived.Lib.Hide
namespace Go.Proofs.YtkklofnabmdmfaaGreatDoor
open Go.RowKit

/-- Outside of S, and of what is new, the world w' is as w was. -/
structure Mod (S : Nat → Prop) (w w' : World) : Prop where
  os : w'.os = w.os
  tape : w'.tape = w.tape
  output : w'.output = w.output
  size : w.heap.size ≤ w'.heap.size
  block : ∀ k, k < w.heap.size → ¬ S k → w'.heap[k]? = w.heap[k]?

def NoneB : Nat → Prop := fun _ => False

namespace Mod
variable {S S' T : Nat → Prop} {w w1 w2 : World}
theorem refl (S : Nat → Prop) (w : World) : Mod S w w := ⟨rfl, rfl, rfl, Nat.le_refl _, fun _ _ _ => rfl⟩
theorem mono (h : Mod S w w1) (hs : ∀ k, k < w.heap.size → S k → S' k) : Mod S' w w1 :=
  ⟨h.os, h.tape, h.output, h.size, fun k hk hn => h.block k hk (fun hS => hn (hs k hk hS))⟩
theorem trans (h : Mod S w w1) (k : Mod T w1 w2) (hs : ∀ k, k < w.heap.size → T k → S k) : Mod S w w2 :=
  ⟨k.os.trans h.os, k.tape.trans h.tape, k.output.trans h.output, Nat.le_trans h.size k.size,
    fun i hi hn => (k.block i (Nat.lt_of_lt_of_le hi h.size) (fun hT => hn (hs i hi hT))).trans (h.block i hi hn)⟩
theorem then0 (h : Mod S w w1) (k : Mod NoneB w1 w2) : Mod S w w2 := h.trans k (fun _ _ hf => hf.elim)
theorem alloc (h : Mod S w w1) (o : Obj) : Mod S w (w1.alloc o) :=
  h.trans (T := NoneB) ⟨rfl, rfl, rfl, by simp, fun k hk _ => Below.heap_alloc _ _ _ hk⟩ (fun _ _ hf => hf.elim)
theorem drew (h : Mod S w w1) : Mod S w w1.drew := ⟨h.os, h.tape, h.output, h.size, h.block⟩
theorem drewN (h : Mod S w w1) (n : Nat) : Mod S w (w1.drewN n) := ⟨h.os, h.tape, h.output, h.size, h.block⟩
theorem setCell (h : Mod S w w1) {p : Addr} (hp : p.block < w.heap.size → S p.block) (u : Value) : Mod S w (w1.setCell p u) :=
  h.trans (T := fun k => k = p.block) ⟨rfl, rfl, rfl, by simp [World.setCell], fun k _ hn => Below.heap_setCell _ _ _ _ hn⟩
    (fun k hk he => by subst he; exact hp hk)
theorem cell (h : Mod S w w1) {a : Addr} {v : Value} (hc : w.cell? a = some v) (hn : ¬ S a.block) : w1.cell? a = some v :=
  (World.cell?_of_block (w := w) (h.block a.block (World.block_lt_of_cell? w a hc) hn)).trans hc
theorem cell0 (h : Mod NoneB w w1) {a : Addr} {v : Value} (hc : w.cell? a = some v) : w1.cell? a = some v := h.cell hc (fun hf => hf)
theorem blk (h : Mod S w w1) {g : Nat} {o : Obj} (hb : w.heap[g]? = some o) (hn : ¬ S g) : w1.heap[g]? = some o :=
  (h.block g (Array.getElem?_eq_some_iff.1 hb).1 hn).trans hb
theorem below (h : Mod S w w1) {B : Nat} (hs : ∀ k, k < B → ¬ S k) (hB : B ≤ w.heap.size) : Below B w w1 :=
  ⟨h.os, h.tape, h.output, h.size, fun k hk => h.block k (Nat.lt_of_lt_of_le hk hB) (hs k hk)⟩
theorem of_below (h : Below w.heap.size w w1) (S : Nat → Prop) : Mod S w w1 := ⟨h.os, h.tape, h.output, h.size, fun k hk _ => h.block k hk⟩
/-- What is new since w may be written at will. -/
theorem trans_new (h : Mod S w w1) (k : Mod T w1 w2) (hs : ∀ k, T k → S k ∨ w.heap.size ≤ k) : Mod S w w2 :=
  h.trans k (fun i hi hT => (hs i hT).elim id (fun h2 => absurd hi (Nat.not_lt.2 h2)))
end Mod

theorem blk_lt {w : World} {g : Nat} {o : Obj} (h : w.heap[g]? = some o) : g < w.heap.size := (Array.getElem?_eq_some_iff.1 h).1
theorem blk_cell {w : World} {g : Nat} {t : TypeId} {cs : Array Value} {f : Nat × Nat} (h : w.heap[g]? = some (.cells cs t f)) (i : Nat) : w.cell? ⟨g, i, none⟩ = cs[i]? := cell_of_row w g i cs t f h
theorem blk_frozen {w : World} {g : Nat} {t : TypeId} {cs : Array Value} (h : w.heap[g]? = some (.cells cs t (0, 0))) (i : Nat) : w.frozen? ⟨g, i, none⟩ = false := by simp [World.frozen?, h]

/-- A slice (address A, n elements of size cells) reads as these cells. -/
def Rd (w : World) (size : Nat) (A : Option Addr) (n : Nat) (cs : List Value) : Prop :=
  cs.length = n * size ∧ n ≤ 9223372036854775807 ∧ (0 < n → ∃ ad, A = some ad ∧ ∀ j u, cs[j]? = some u → w.cell? (ad.add j) = some u)

namespace Rd
variable {w w1 : World} {size n : Nat} {A : Option Addr} {cs : List Value} {S : Nat → Prop}
theorem nil (w : World) (size : Nat) (A : Option Addr) : Rd w size A 0 [] := ⟨by simp, by omega, fun h => absurd h (Nat.lt_irrefl 0)⟩
/-- What is read stays, where its blocks stay. -/
theorem step (h : Rd w size A n cs) (hm : ∀ ad, A = some ad → ad.block < w.heap.size → w1.heap[ad.block]? = w.heap[ad.block]?) : Rd w1 size A n cs :=
  ⟨h.1, h.2.1, fun hn => by
    obtain ⟨ad, e, hc⟩ := h.2.2 hn
    refine ⟨ad, e, fun j u hu => ?_⟩
    have h1 := hc j u hu
    have hb : (ad.add j).block = ad.block := by unfold Addr.add; split <;> rfl
    have hlt := World.block_lt_of_cell? w _ h1
    rw [hb] at hlt
    exact (World.cell?_of_block (w := w) (by rw [hb]; exact hm ad e hlt)).trans h1⟩
theorem mod (h : Rd w size A n cs) (hm : Mod S w w1) (hs : ∀ ad, A = some ad → ¬ S ad.block) : Rd w1 size A n cs :=
  h.step (fun ad e hlt => hm.block _ hlt (hs ad e))
theorem mod0 (h : Rd w size A n cs) (hm : Mod NoneB w w1) : Rd w1 size A n cs := h.mod hm (fun _ _ hf => hf)
theorem modP (h : Rd w size A n cs) (hm : Mod S w w1) (hs : 0 < n → ∀ ad, A = some ad → ¬ S ad.block) : Rd w1 size A n cs := by
  rcases Nat.eq_zero_or_pos n with h0 | h0
  · exact ⟨h.1, h.2.1, fun hp => by omega⟩
  · exact h.mod hm (hs h0)
theorem block_lt (h : Rd w size A n cs) (hz : 0 < size) (hn : 0 < n) : ∀ ad, A = some ad → ad.block < w.heap.size := by
  intro ad hA
  obtain ⟨ad', e, hc⟩ := h.2.2 hn
  rw [hA] at e
  injection e with e
  subst e
  have hl : 0 < cs.length := by rw [h.1]; exact Nat.mul_pos hn hz
  have h1 := World.block_lt_of_cell? w _ (hc 0 cs[0] (List.getElem?_eq_getElem hl))
  have hb : (ad.add 0).block = ad.block := by unfold Addr.add; split <;> rfl
  rwa [hb] at h1
end Rd
end Go.Proofs.YtkklofnabmdmfaaGreatDoor

/- A region that draws its order, of reads and of calls that leave all blocks alone that were: one walk, in the order of the text. -/
namespace Go.Proofs.YtkklofnabmdmfaaGreatDoor
open Go.RowKit
set_option linter.unusedVariables false

/-- A world behind w: what was in w is as it was. -/
structure After (w : World) where
  w' : World
  m : Mod NoneB w w'
instance (w : World) : Nonempty (After w) := ⟨⟨w, Mod.refl _ _⟩⟩
end Go.Proofs.YtkklofnabmdmfaaGreatDoor
