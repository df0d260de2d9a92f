/- What an act makes of a disk, in plain words, and how far it grows. -/
import Derived.Test.YtedjfbbfpnkbeaaGreatDoorSnapP
import Derived.Test.YtedjfbbfpnkbeaaGreatDoorOpenS
import Derived.Test.YtedjfbbfpnkbeaaGreatDoorTwo
import Derived.Test.YtedjfbbfpnkbeaaGreatDoorDkAn
import Derived.Deep.RegionHeld3
import Derived.Test.YtedjfbbfpnkbeaaGreatDoorConvR
import Derived.Test.YtedjfbbfpnkbeaaGreatDoorDkHeavy
namespace Go.Proofs.YtedjfbbfpnkbeaaGreatDoor
set_option linter.unusedVariables false

theorem restF_le (keep : List Int) (i : Nat) (f : Fl) : (restF keep i f).b.length ≤ f.b.length := by
  unfold restF
  simp only
  split
  · simp only [List.length_take]; omega
  · exact Nat.le_refl _
theorem usedF_mapIdx (g : Nat → Fl → Fl) (h : ∀ i f, (g i f).b.length ≤ f.b.length) (l : List Fl) : usedF (l.mapIdx g) ≤ usedF l := by
  induction l generalizing g with
  | nil => simp [usedF]
  | cons f l ih =>
    rw [List.mapIdx_cons, usedF_cons, usedF_cons]
    have h1 := ih (fun i => g (i + 1)) (fun i f => h (i + 1) f)
    have h2 := h 0 f
    omega
theorem restart_used (d : Dk) (p : Pl) : usedF (restartD d p).fs ≤ usedF d.fs := usedF_mapIdx _ (restF_le d.p.keep) _

/-- What an act makes of a disk. -/
def doD (d : Dk) (a : ActV) : Dk :=
  if a.act = 0 then (createD d a.name).1
  else if a.act = 1 ∨ a.act = 2 then (appendD d a.name a.b).1
  else if a.act = 3 then (syncD d a.name).1
  else if a.act = 4 then (cutD d a.name a.n).1
  else if a.act = 5 then (renameD d a.name a.nto).1
  else if a.act = 6 then (removeD d a.name).1
  else if a.act = 7 then restartD d a.p.p
  else d
theorem restart_grow (k : Nat) (d : Dk) (p : Pl) : Grow k d (restartD d p) := ⟨by simp [restartD], by simp [restartD], by have := restart_used d p; omega⟩
theorem Grow.mono {k k' : Nat} {d d' : Dk} (h : Grow k d d') (hk : k ≤ k') : Grow k' d d' := ⟨h.c, h.l, Nat.le_trans h.u (by omega)⟩
theorem doD_grow (d : Dk) (a : ActV) : Grow a.b.length d (doD d a) := by
  unfold doD
  split
  · exact (create_grow d _).mono (Nat.zero_le _)
  · split
    · exact append_grow d _ _
    · split
      · exact (sync_grow d _).mono (Nat.zero_le _)
      · split
        · exact (cut_grow d _ _).mono (Nat.zero_le _)
        · split
          · exact (rename_grow d _ _).mono (Nat.zero_le _)
          · split
            · exact (remove_grow d _).mono (Nat.zero_le _)
            · split
              · exact restart_grow _ d _
              · exact ⟨by omega, by omega, by omega⟩
theorem gate_cap {d : Dk} {op : Dk → Ans} (h : ∀ c dn, (op { d with c := c, dn := dn }).1.p = d.p) : (gateD d op).1.p = d.p := by
  obtain ⟨p, fs, c, dn⟩ := d
  unfold gateD
  simp only at h ⊢
  split
  · rfl
  · split
    · split
      · exact h (c + 1) true
      · rfl
    · split
      · rfl
      · exact h (c + 1) dn
theorem with_cap {d : Dk} (n : ByteArray) (f : Dk → Nat → Ans) (h : ∀ (e : Dk) i, e.p = d.p → (f e i).1.p = d.p) : (withD d n f).1.p = d.p := by
  refine gate_cap fun c dn => ?_
  unfold hitAns
  split
  · exact h _ _ rfl
  · rfl
theorem doD_cap (d : Dk) (a : ActV) : (doD d a).p = d.p ∨ (doD d a).p = a.p.p := by
  unfold doD
  split
  · refine .inl (gate_cap fun c dn => ?_)
    unfold createF
    split
    · rfl
    · split <;> rfl
  · split
    · refine .inl (with_cap _ _ fun e i he => ?_)
      unfold appendF; split <;> exact he
    · split
      · exact .inl (with_cap _ _ fun e i he => he)
      · split
        · refine .inl (with_cap _ _ fun e i he => ?_)
          unfold cutF; split <;> exact he
        · split
          · refine .inl (with_cap _ _ fun e i he => ?_)
            unfold renameF
            split
            · exact he
            · split <;> exact he
          · split
            · exact .inl (with_cap _ _ fun e i he => he)
            · split
              · exact .inr rfl
              · exact .inl rfl
def lensB (l : List ActV) : Nat := (l.map fun a => a.b.length).sum
theorem lensB_take (l : List ActV) (i : Nat) (h : i < l.length) : lensB (l.take (i + 1)) = lensB (l.take i) + l[i].b.length := by
  unfold lensB; rw [List.take_succ_eq_append_getElem h, List.map_append, List.sum_append]; simp
theorem lensB_take_le (l : List ActV) (i : Nat) : lensB (l.take i) ≤ lensB l := by
  unfold lensB
  conv => rhs; rw [← List.take_append_drop i l]
  rw [List.map_append, List.sum_append]; omega
theorem lensB_get (l : List ActV) (i : Nat) (h : i < l.length) : l[i].b.length ≤ lensB l := by
  have h1 := lensB_take l i h
  have h2 := lensB_take_le l (i + 1)
  omega
end Go.Proofs.YtedjfbbfpnkbeaaGreatDoor

/- Law 1's Do: an act on both disks, by program (gen/do.py). -/
namespace Go.Proofs.YtedjfbbfpnkbeaaGreatDoor
open Go.RowKit
set_option linter.unusedVariables false

/-- An act's cells, its kind in front. -/
def actCs (k : Int) (a : ActV) : Array Value := #[.int .i64 k, .string a.name, .string a.nto, .slice a.B a.b.length a.bc, .int .i64 a.n, .int .i64 a.p.p.cap, .slice a.p.F a.p.p.fail.length a.p.fc, .int .i64 a.p.p.crash, .bool a.p.p.done, .slice a.p.K a.p.p.keep.length a.p.kc]
def OnB (G : Nat → Prop) (B : Nat) : Nat → Prop := fun k => G k ∨ k = B
theorem TwoTo.home {G : Nat → Prop} {w0 w w1 w2 : World} {p q B : Nat} {d r : Dk} (hm : Mod NoneB w w1) (h : TwoTo (OnB G B) w0 w1 w2 p q d r) : TwoTo G w0 w w2 p q d r :=
  ⟨h.two.drop (fun k hk => .inl hk), (hm.mono (fun _ _ h => h.elim)).trans h.mod (fun k _ hk => ⟨hk.1, fun hg => hk.2 (.inl hg)⟩)⟩
theorem TwoTo.go {G : Nat → Prop} {w0 w w1 w2 : World} {p q : Nat} {d r d' r' : Dk} (h : TwoTo G w0 w w1 p q d r) (k : TwoTo G w0 w1 w2 p q d' r') : TwoTo G w0 w w2 p q d' r' :=
  ⟨k.two, h.mod.trans k.mod (fun _ _ h => h)⟩
theorem TwoTo.then0 {G : Nat → Prop} {w0 w w1 w2 : World} {p q : Nat} {d r : Dk} (h : TwoTo G w0 w w1 p q d r) (hm : Mod NoneB w1 w2) : TwoTo G w0 w w2 p q d r := ⟨h.two.mod0 hm, h.mod.then0 hm⟩
theorem Two.boxed {G : Nat → Prop} {w0 w : World} {p q : Nat} {d r : Dk} (h : Two G w0 w p q d r) (o : Obj) : Two (OnB G w.heap.size) w0 (w.alloc o) p q d r :=
  h.keep ((Mod.refl _ _).alloc o) (fun k hk => ⟨hk.imp id (fun e => by rw [e]; exact Nat.le_refl _), hk.elim (fun h1 => by
    obtain ⟨R, h2, _⟩ := h
    have := h2.lt0 k (.inr (.inl h1))
    simp; omega) (fun e => by rw [e]; simp)⟩)
/-- The same call is told alike of both, and leaves them alike. -/
def DoneE (G : Nat → Prop) (w0 w : World) (p q : Nat) (d' : Dk) (e : Ending) (w' : World) : Prop := e = .returned (.bool true) ∧ TwoTo G w0 w w' p q d' d'








end Go.Proofs.YtedjfbbfpnkbeaaGreatDoor

/- Law 1's Do: Restart, Read, none; all kinds in one. -/
namespace Go.Proofs.YtedjfbbfpnkbeaaGreatDoor
open Go.RowKit
set_option linter.unusedVariables false




end Go.Proofs.YtedjfbbfpnkbeaaGreatDoor

