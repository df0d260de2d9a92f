/- Snapshots in plain words: what saving makes of a disk. No program stands here. -/
import Derived.Deep.RegionHeld3
import Derived.Test.YtnlmfmceogbomaaGreatDoorRows
import Derived.Test.YtnlmfmceogbomaaGreatDoorDkOneLQq
import Derived.Test.YtnlmfmceogbomaaGreatDoorConvRQq
import Derived.Test.YtnlmfmceogbomaaGreatDoorFlatQq
import Derived.Test.YtnlmfmceogbomaaGreatDoorOpenSQq
import Derived.Test.YtnlmfmceogbomaaGreatDoorBatCuQq
import Derived.Test.YtnlmfmceogbomaaGreatDoorSameQq
namespace Go.Proofs.YtnlmfmceogbomaaGreatDoor
set_option linter.unusedVariables false

/-- How much a call lets a disk grow: one call, one file, so many bytes. -/
structure Grow (k : Nat) (d d' : Dk) : Prop where
  c : d'.c ≤ d.c + 1
  l : d'.fs.length ≤ d.fs.length + 1
  u : usedF d'.fs ≤ usedF d.fs + k
theorem gate_grow {k : Nat} {d : Dk} {op : Dk → Ans} (h : ∀ c dn, (op { d with c := c, dn := dn }).1.c = c ∧ (op { d with c := c, dn := dn }).1.fs.length ≤ d.fs.length + 1 ∧ usedF (op { d with c := c, dn := dn }).1.fs ≤ usedF d.fs + k) : Grow k d (gateD d op).1 := by
  obtain ⟨p, fs, c, dn⟩ := d
  unfold gateD
  simp only at h ⊢
  split
  · exact ⟨by simp, by simp, by simp⟩
  · split
    · obtain ⟨h1, h2, h3⟩ := h (c + 1) true
      split
      · exact ⟨by simp only [h1]; omega, h2, h3⟩
      · exact ⟨by simp, by simp, by simp⟩
    · split
      · exact ⟨by simp, by simp, by simp⟩
      · obtain ⟨h1, h2, h3⟩ := h (c + 1) dn
        exact ⟨by simp only [h1]; omega, h2, h3⟩
theorem usedF_append (a b : List Fl) : usedF (a ++ b) = usedF a + usedF b := by unfold usedF; rw [List.map_append, List.sum_append]
theorem usedF_cons (f : Fl) (b : List Fl) : usedF (f :: b) = f.b.length + usedF b := rfl
theorem usedF_drop_le (l : List Fl) (i j : Nat) (h : i ≤ j) : usedF (l.drop j) ≤ usedF (l.drop i) := by
  have e : l.drop j = (l.drop i).drop (j - i) := by rw [List.drop_drop]; congr 1; omega
  rw [e]
  conv => rhs; rw [← List.take_append_drop (j - i) (l.drop i), usedF_append]
  omega
theorem usedF_put (fs : List Fl) (f : Fl) : usedF (putF fs f) ≤ usedF fs + f.b.length := by
  unfold putF
  rw [usedF_append, usedF_cons]
  have h1 : usedF (fs.take (lbF fs f.n)) + usedF (fs.drop (lbF fs f.n)) = usedF fs := by rw [← usedF_append, List.take_append_drop]
  have h2 := usedF_drop_le fs (lbF fs f.n) (if hitF fs f.n then lbF fs f.n + 1 else lbF fs f.n) (by split <;> omega)
  omega
theorem usedF_erase (fs : List Fl) (i : Nat) (h : i < fs.length) : usedF (fs.eraseIdx i) + fs[i].b.length = usedF fs := by
  rw [List.eraseIdx_eq_take_drop_succ, usedF_append]
  have h1 : usedF fs = usedF (fs.take i) + usedF (fs.drop i) := by rw [← usedF_append, List.take_append_drop]
  rw [List.drop_eq_getElem_cons h, usedF_cons] at h1
  omega
theorem usedF_set (fs : List Fl) (i : Nat) (h : i < fs.length) (f : Fl) : usedF (fs.set i f) + fs[i].b.length = usedF fs + f.b.length := by
  have h1 : usedF fs = usedF (fs.take i) + usedF (fs.drop i) := by rw [← usedF_append, List.take_append_drop]
  rw [List.drop_eq_getElem_cons h, usedF_cons] at h1
  rw [List.set_eq_take_append_cons_drop, if_pos h, usedF_append, usedF_cons]
  omega
theorem create_grow (d : Dk) (n : ByteArray) : Grow 0 d (createD d n).1 := by
  refine gate_grow fun c dn => ?_
  unfold createF
  split
  · exact ⟨rfl, by simp, by simp⟩
  · split
    · exact ⟨rfl, by simp, by simp⟩
    · exact ⟨rfl, putF_length_le _ _, usedF_put _ _⟩
theorem with_grow {k : Nat} (d : Dk) (n : ByteArray) (f : Dk → Nat → Ans) (h : ∀ c dn i, i < d.fs.length → (f { d with c := c, dn := dn } i).1.c = c ∧ (f { d with c := c, dn := dn } i).1.fs.length ≤ d.fs.length + 1 ∧ usedF (f { d with c := c, dn := dn } i).1.fs ≤ usedF d.fs + k) : Grow k d (withD d n f).1 := by
  refine gate_grow fun c dn => ?_
  unfold hitAns
  split
  · rename_i hh
    exact h c dn _ (hitF_lt hh)
  · exact ⟨rfl, by simp, by simp⟩
theorem append_grow (d : Dk) (n : ByteArray) (b : List UInt8) : Grow b.length d (appendD d n b).1 := by
  refine with_grow d n _ fun c dn i hi => ?_
  unfold appendF
  split
  · exact ⟨rfl, by simp, by simp⟩
  · refine ⟨rfl, by simp, ?_⟩
    have h := usedF_set d.fs i hi { fileAt { d with c := c, dn := dn } i with b := (fileAt { d with c := c, dn := dn } i).b ++ b }
    have e : fileAt { d with c := c, dn := dn } i = d.fs[i] := fileAt_get (d := { d with c := c, dn := dn }) hi
    simp only [e, List.length_append] at h ⊢
    omega
theorem sync_grow (d : Dk) (n : ByteArray) : Grow 0 d (syncD d n).1 := by
  refine with_grow d n _ fun c dn i hi => ?_
  refine ⟨rfl, by simp [syncF], ?_⟩
  unfold syncF
  have h := usedF_set d.fs i hi { fileAt { d with c := c, dn := dn } i with s := (fileAt { d with c := c, dn := dn } i).b.length }
  have e : fileAt { d with c := c, dn := dn } i = d.fs[i] := fileAt_get (d := { d with c := c, dn := dn }) hi
  simp only [e] at h ⊢
  omega
theorem remove_grow (d : Dk) (n : ByteArray) : Grow 0 d (removeD d n).1 := by
  refine with_grow d n _ fun c dn i hi => ?_
  refine ⟨rfl, Nat.le_trans (List.length_eraseIdx_le _ _) (by simp), ?_⟩
  have h := usedF_erase d.fs i hi
  show usedF (d.fs.eraseIdx i) ≤ _
  omega
theorem rename_grow (d : Dk) (n nt : ByteArray) : Grow 0 d (renameD d n nt).1 := by
  refine with_grow d n _ fun c dn i hi => ?_
  unfold renameF
  split
  · exact ⟨rfl, by simp, by simp⟩
  · split
    · exact ⟨rfl, by simp, by simp⟩
    · refine ⟨rfl, Nat.le_trans (putF_length_le _ _) (by have := List.length_eraseIdx_le d.fs i; simp only; omega), ?_⟩
      have h1 := usedF_put (d.fs.eraseIdx i) { fileAt { d with c := c, dn := dn } i with n := nt }
      have h2 := usedF_erase d.fs i hi
      have e : fileAt { d with c := c, dn := dn } i = d.fs[i] := fileAt_get (d := { d with c := c, dn := dn }) hi
      simp only [e] at h1 ⊢
      omega

def sSnap : ByteArray := ⟨#[115, 110, 97, 112]⟩
def sTmp : ByteArray := ⟨#[116, 109, 112]⟩
/-- Is there such a file? -/
def hasF (fs : List Fl) (n : ByteArray) : Bool := fs.any fun f => decide (f.n = n)
def clearD (d : Dk) : Ans := if hasF d.fs sTmp then removeD d sTmp else (d, 0)
/-- The j-th of the five calls of a save. -/
def stepS (b : List UInt8) (j : Nat) (d : Dk) : Ans :=
  match j with
  | 0 => clearD d
  | 1 => createD d sTmp
  | 2 => appendD d sTmp b
  | 3 => syncD d sTmp
  | _ => renameD d sTmp sSnap
/-- The calls from the j-th on, k of them, as long as they are done. -/
def restS (b : List UInt8) : Nat → Nat → Dk → Ans
  | 0, _, d => (d, 0)
  | k + 1, j, d => if (stepS b j d).2 = 0 then restS b k (j + 1) (stepS b j d).1 else stepS b j d
def saveD (d : Dk) (b : List UInt8) : Ans := restS b 5 0 d
/-- What a save of pairs makes of a disk, and answers. -/
def saveR (d : Dk) (l : List Pr) : Ans := if (tableR l).2 = 0 then saveD d (tableR l).1 else (d, (tableR l).2)
theorem restS_ok {b : List UInt8} {k j : Nat} {d : Dk} (h : (stepS b j d).2 = 0) : restS b (k + 1) j d = restS b k (j + 1) (stepS b j d).1 := if_pos h
theorem restS_no {b : List UInt8} {k j : Nat} {d : Dk} (h : (stepS b j d).2 ≠ 0) : restS b (k + 1) j d = stepS b j d := if_neg h
theorem stepS_grow (b : List UInt8) (j : Nat) (d : Dk) : Grow b.length d (stepS b j d).1 := by
  have up : ∀ d', Grow 0 d d' → Grow b.length d d' := fun d' h => ⟨h.c, h.l, Nat.le_trans h.u (by omega)⟩
  unfold stepS
  split
  · unfold clearD
    split
    · exact up _ (remove_grow _ _)
    · exact ⟨by simp, by simp, by simp⟩
  · exact up _ (create_grow _ _)
  · exact append_grow _ _ _
  · exact up _ (sync_grow _ _)
  · exact up _ (rename_grow _ _ _)
theorem cut_grow (d : Dk) (n : ByteArray) (k : Int) : Grow 0 d (cutD d n k).1 := by
  refine with_grow d n _ fun c dn i hi => ?_
  unfold cutF
  split
  · exact ⟨rfl, by simp, by simp⟩
  · refine ⟨rfl, by simp, ?_⟩
    have hg : fileAt { d with c := c, dn := dn } i = d.fs[i] := fileAt_get (d := { d with c := c, dn := dn }) hi
    rw [hg]
    have h := usedF_set d.fs i hi { d.fs[i] with b := d.fs[i].b.take k.toNat, s := min d.fs[i].s k.toNat }
    simp only [List.length_take] at h
    simp only
    omega
end Go.Proofs.YtnlmfmceogbomaaGreatDoor

/- Law 1's Heavy: what it lets by. -/
namespace Go.Proofs.YtnlmfmceogbomaaGreatDoor
open Go.RowKit
set_option linter.unusedVariables false

/-- An act that is let by. -/
def LightA (a : ActV) : Prop := a.p.p.fail.length ≤ 200 ∧ a.p.p.keep.length ≤ 200 ∧ a.name.size ≤ 100 ∧ a.nto.size ≤ 100
instance (a : ActV) : Decidable (LightA a) := by unfold LightA; exact inferInstance

end Go.Proofs.YtnlmfmceogbomaaGreatDoor

/- What an act makes of a disk, in plain words, and how far it grows. -/
namespace Go.Proofs.YtnlmfmceogbomaaGreatDoor
set_option linter.unusedVariables false

theorem gate_cap {d : Dk} {op : Dk → Ans} (h : ∀ c dn, (op { d with c := c, dn := dn }).1.p = d.p) : (gateD d op).1.p = d.p := by
  obtain ⟨p, fs, c, dn⟩ := d
  unfold gateD
  simp only at h ⊢
  split
  · rfl
  · split
    · split
      · exact h (c + 1) true
      · rfl
    · split
      · rfl
      · exact h (c + 1) dn
theorem with_cap {d : Dk} (n : ByteArray) (f : Dk → Nat → Ans) (h : ∀ (e : Dk) i, e.p = d.p → (f e i).1.p = d.p) : (withD d n f).1.p = d.p := by
  refine gate_cap fun c dn => ?_
  unfold hitAns
  split
  · exact h _ _ rfl
  · rfl
end Go.Proofs.YtnlmfmceogbomaaGreatDoor

/- Law 1's Do: an act on both disks, by program (gen/do.py). -/
namespace Go.Proofs.YtnlmfmceogbomaaGreatDoor
open Go.RowKit
set_option linter.unusedVariables false

theorem TwoTo.go {G : Nat → Prop} {w0 w w1 w2 : World} {p q : Nat} {d r d' r' : Dk} (h : TwoTo G w0 w w1 p q d r) (k : TwoTo G w0 w1 w2 p q d' r') : TwoTo G w0 w w2 p q d' r' :=
  ⟨k.two, h.mod.trans k.mod (fun _ _ h => h)⟩

end Go.Proofs.YtnlmfmceogbomaaGreatDoor

/- Law 1's Do: Restart, Read, none; all kinds in one. -/
namespace Go.Proofs.YtnlmfmceogbomaaGreatDoor
open Go.RowKit
set_option linter.unusedVariables false

end Go.Proofs.YtnlmfmceogbomaaGreatDoor

/- What the bound of an '..Upto' statement gives of acts and plans. -/
namespace Go.Proofs.YtnlmfmceogbomaaGreatDoor
open Go.RowKit Go.Deep Go.ChangeShapes Go.WideShapes
set_option linter.unusedVariables false

section
variable {P : Program} {H : Type} {enc : TypeId × Value → H} {w : World} {spare : Nat → Bool} {held : Bool}
end
section
variable {H : Type} {enc : TypeId × Value → H} {w : World} {spare : Nat → Bool} {held : Bool}
theorem i64_top {c : Int} (h : (Lit.int .i64 c).wf = true) : c ≤ 9223372036854775807 := by simp [Lit.wf] at h; exact h.2
set_option maxRecDepth 100000 in
theorem elPlC (n : Nat) (cs : List Value) (y : DataW H × List MemPlace) (h : DataW.trod enc Tryz.prog w 0 spare held n 29 cs = some y) (hl : cs.length = 5) : ∃ x : PlV, cs = encPl x ∧ PlOk w x ∧ x.p.cap ≤ 9223372036854775807 := by
  obtain ⟨x, rfl, hx⟩ := elPl n cs y h hl
  refine ⟨x, rfl, hx, ?_⟩
  obtain ⟨xs, n, _, _, _, hxl, hfs⟩ := DataW.trod_struct Tryz.underlying29 h
  match xs, hxl with
  | [y0, y1, y2, y3, y4], _ =>
    have g0 := hfs 0 _ rfl
    obtain ⟨c1, e0, _, hw⟩ := DataW.trod_int (t := 3) Tryz.underlying3 g0
    have e0' : [Value.int .i64 x.p.cap] = [.int .i64 c1] := e0
    simp only [List.cons.injEq, and_true, Value.int.injEq, true_and] at e0'
    rw [e0']
    exact i64_top hw
end
end Go.Proofs.YtnlmfmceogbomaaGreatDoor

/- What the bound of an '..Upto' statement gives of plans, and of rows of pairs. -/
namespace Go.Proofs.YtnlmfmceogbomaaGreatDoor
open Go.RowKit Go.Deep Go.ChangeShapes Go.WideShapes
set_option linter.unusedVariables false

/-- A row of pairs as it came in. -/
structure PsV where
  l : List Pr
  A : Option Addr
  c : Nat
instance : Inhabited PsV := ⟨⟨[], none, 0⟩⟩
/-- A plan as it came in, with its numbers' bounds. -/
structure PlOk2 (w : World) (x : PlV) : Prop where
  ok : PlOk w x
  cap : x.p.cap ≤ 9223372036854775807
section
variable {H : Type} {enc : TypeId × Value → H} {w : World} {spare : Nat → Bool} {held : Bool}
theorem rd_plans2 {A : Option Addr} {n c fuel : Nat} {x : DataW H × List MemPlace} (h : DataW.trod enc Tryz.prog w 0 spare held fuel 59 [.slice A n c] = some x) :
    ∃ l : List PlV, l.length = n ∧ n ≤ c ∧ c ≤ maxLen ∧ Rd w 5 A n (l.flatMap encPl) ∧ ∀ x ∈ l, PlOk2 w x :=
  rd_openQ encPl 5 (fun _ => rfl) (PlOk2 w) Tryz.underlying59 (by kernel_rfl) (fun n cs y h hl => by
    obtain ⟨x, rfl, h1, h2⟩ := elPlC n cs y h hl
    exact ⟨x, rfl, ⟨h1, h2⟩⟩) h
end
end Go.Proofs.YtnlmfmceogbomaaGreatDoor
